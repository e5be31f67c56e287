/- A region that draws its order, only asks, and guards operations by tests whose outcome is known: one walk in the text's order. No program is named here. -/
import Derived.Test.YtmeoackmjdoecaaGreatA1
import Derived.KernelRfl
import Derived.Lib.BitFns
namespace Go.Proofs.YtmeoackmjdoecaaGreat
open Go
def Kq:List (Nat×Bool)->Nat->Option Bool
  |[],_=>none
  |(s,x)::r,t=>bif Nat.beq s t then some x else Kq r t
def sQ (eC:List (Nat×Bool)) (i:Nat) (x:e9):e9×List (Bool×Bool):=
  match Kq eC i,x with
  |some b,.v (.bool c)=>(.v (.bool b),[(c,b)])
  |_,x=>(x,[])
def ku:List (Bool×Bool)->Prop
  |[]=>True
  |p::r=>p.1=p.2/\ku r
theorem ku.nil:ku []:=trivial
theorem ku.cons {c b:Bool} {l:List (Bool×Bool)} (h:c=b) (t:ku l):ku ((c,b)::l):=⟨h,t⟩
theorem ku.left:∀{l r:List (Bool×Bool)},ku (l++r)->ku l
  |[],_,_=>trivial
  |_::_,_,h=>⟨h.1,ku.left h.2⟩
theorem ku.right:∀{l r:List (Bool×Bool)},ku (l++r)->ku r
  |[],_,h=>h
  |_::_,_,h=>ku.right (l:=_) h.2
theorem TI {eC:List (Nat×Bool)} {i:Nat} {x:e9} (h:ku (sQ eC i x).2):(sQ eC i x).1=x:=by
  unfold sQ at h ⊢
  split
  · rename_i b c hb
    simp only [hb] at h
    have:=h.1
    simp only at this
    rw [this]
  · rfl
def qZ (P:Program) (n:Nat) (ops:Array Oper) (eC:List (Nat×Bool)):Nat->List Oper->bw->List Value->Option (bw×List (Ask×Value)×List (Bool×Bool))
  |
    _,[],σ,_=>some (σ,[],[])
  |i,o::r,σ,c0=>
    match nh ops σ o with
    |none=>none
    |some false=>(σ.put n o.dst (.v undef)).bind fun σ'=>qZ P n ops eC (i+1) r σ' c0
    |some true=>
      match uJ P σ o with
      |some (.val x)=>(σ.put n o.dst (sQ eC i x).1).bind fun σ'=>(qZ P n ops eC (i+1) r σ' c0).map fun z=>(z.1,z.2.1,(sQ eC i x).2++z.2.2)
      |some (.ask q)=>
        match c0 with
        |[]=>none
        |v::uK=>(σ.put n o.dst (sQ eC i (.v v)).1).bind fun σ'=>(qZ P n ops eC (i+1) r σ' uK).map fun z=>(z.1,(q,v)::z.2.1,(sQ eC i (.v v)).2++z.2.2)
      |_=>none
theorem C2 (P:Program) (n:Nat) (ops:Array Oper) (eC:List (Nat×Bool)):∀(l:List Oper) (i:Nat) (σ:bw) (c0:List Value) (z:bw×List (Ask×Value)×List (Bool×Bool)),
    qZ P n ops eC i l σ c0=some z->ku z.2.2->k_ P n ops l σ c0=some (z.1,z.2.1)
  |
    [],i,σ,c0,z,h,hb=>by
    simp only [qZ,Option.some.injEq] at h
    subst h
    rfl
  |o::l,i,σ,c0,z,h,hb=>by
    simp only [qZ] at h
    simp only [k_]
    split at h
    · cases h
    · rename_i aJ
      try rw [aJ]
      try simp only
      cases a2:σ.put n o.dst (.v undef) with
      |none=>rw [a2] at h;cases h
      |some bf=>
        rw [a2] at h
        exact C2 P n ops eC l (i+1) bf c0 z h hb
    · rename_i aJ
      try rw [aJ]
      try simp only
      split at h
      · rename_i x hx
        rw [hx]
        simp only
        cases a2:σ.put n o.dst (sQ eC i x).1 with
        |none=>rw [a2] at h;cases h
        |some bf=>
          rw [a2] at h
          simp only [Option.bind_some] at h
          cases bo:qZ P n ops eC (i+1) l bf c0 with
          |none=>rw [bo] at h;cases h
          |some r=>
            rw [bo] at h
            simp only [Option.map_some,Option.some.injEq] at h
            subst h
            rw [TI hb.left] at a2
            rw [a2]
            exact C2 P n ops eC l (i+1) bf c0 r bo hb.right
      · rename_i q hx
        rw [hx]
        simp only
        split at h
        · cases h
        · rename_i v uK
          cases a2:σ.put n o.dst (sQ eC i (.v v)).1 with
          |none=>rw [a2] at h;cases h
          |some bf=>
            rw [a2] at h
            simp only [Option.bind_some] at h
            cases bo:qZ P n ops eC (i+1) l bf uK with
            |none=>rw [bo] at h;cases h
            |some r=>
              rw [bo] at h
              simp only [Option.map_some,Option.some.injEq] at h
              subst h
              rw [TI hb.left] at a2
              have:=C2 P n ops eC l (i+1) bf uK r bo hb.right
              simp only [a2,Option.bind_some,this,Option.map_some]
      · cases h
def Pe (P:Program) (n:Nat) (ops:Array Oper) (eC:List (Nat×Bool)) (σ:bw) (c0:List Value) (keep:List Nat) (m:Nat):Option (bw×List (Ask×Value)×List (Bool×Bool)):=
  (qZ P n ops eC 0 ops.toList σ c0).map fun x=>(⟨x.1.keep m keep,x.1.ay.take m⟩,x.2)
variable {P:Program} {n:Nat} {w0:World} {M:aw} {u:World} {N:aw} {β:Nat->Nat} {σ σ':bw} {a:Act} {w:World} {ops:Array Oper} {Q:Exit->Act->World->Prop}
theorem aj.CZ (S:aj P n w0 M u N β σ a w) {id:Nat} (eC:List (Nat×Bool)) {claims:List (Ask×Value)} {pC:List (Bool×Bool)} {keep:List Nat} {m:Nat} (aI:fe P u N claims)
    (hm:P.follows .mixedOrders=true) (bU:Region.lexB .any ops=true)
    (bB:Pe P n ops eC σ (claims.map (·.2)) keep m=some (σ',claims,pC)) (rr:ku pC) (K:∀aD w',aj P n w0 M u N β σ' aD w'->Q .normal aD w'):(Code.region id ops true).wp P Q a w:=by
  unfold Pe at bB
  cases bo:qZ P n ops eC 0 ops.toList σ (claims.map (·.2)) with
  |none=>rw [bo] at bB;cases bB
  |some r=>
    rw [bo] at bB
    simp only [Option.map_some,Option.some.injEq,Prod.mk.injEq] at bB
    obtain⟨bA,bt⟩:=bB
    have ah:r.2.2=pC:=by rw [bt]
    have h1:r.2.1=claims:=by rw [bt]
    have hd:=C2 P n ops eC _ _ _ _ _ bo (by rw [ah];exact rr)
    refine S.drawn (claims:=claims) (keep:=keep) (m:=m) aI hm bU ?_ K
    unfold G2
    rw [hd,h1,←bA]
    rfl
end Go.Proofs.YtmeoackmjdoecaaGreat
namespace Go.Proofs.YtmeoackmjdoecaaGreat
open Go
set_option linter.unusedSimpArgs false
set_option linter.unusedVariables false
def hF (x:Int) (k:Int) (f:Int->Int):Int:=if x=k then f (IntKind.i64.wrap (k+1)) else-1
def vR (x:Bool) (k:Int) (f:Int->Int):Int:=if x=(Int.tmod k 3==0) then f (IntKind.i64.wrap (k+1)) else-1
def gq (k:Int) (f:Int->Int):Int:=if k<0 then-1 else f k
theorem lB {α:Type} [GT α] {xs:List α} {i k:Nat} {y:α} (e:¬i=k):el (xs.set k y) i=el xs i:=by
  unfold el
  rw [List.getD_eq_getElem?_getD,List.getD_eq_getElem?_getD,List.getElem?_set_ne (fun h=>e h.symm)]
class lY (α:Type) where
  he:α->Int->(Int->Int)->Int
section
variable {α:Type} [lY α]
def Re:List α->Int->(Int->Int)->Int
  |[],k,f=>f k
  |x::r,k,f=>lY.he x k fun k=>Re r k f
def fS (xs:List α) (k:Int):Int:=Re xs k id
instance:lY Int:=⟨hF⟩
instance:lY Bool:=⟨vR⟩
instance:lY (List α):=⟨fun x k f=>gq (fS x k) f⟩
end
theorem O1 {α:Type} {xs:List α} {k:Nat} {y:α}:(xs.set k y).drop (k+1)=xs.drop (k+1):=by
  rw [List.drop_set_of_lt (Nat.lt_succ_self _)]
theorem O0 {α:Type} {xs aU:List α} {k:Nat} (h:xs.drop k=aU.drop k):xs.drop (k+1)=aU.drop (k+1):=by
  rw [←List.drop_drop,←List.drop_drop,h]
theorem O8 {α:Type} [GT α] {xs aU:List α} {k:Nat} (h:xs.drop k=aU.drop k):el xs k=el aU k:=by
  have e:(xs.drop k)[0]? =(aU.drop k)[0]? :=by rw [h]
  rw [List.getElem?_drop,List.getElem?_drop,Nat.add_zero] at e
  unfold el
  rw [List.getD_eq_getElem?_getD,List.getD_eq_getElem?_getD,e]
instance:lY aA:=⟨fun x k f=>hF x.page k fun k=>hF x.bW k fun k=>f k⟩
instance:lY a0:=⟨fun x k f=>hF x.tag k fun k=>hF x.page k fun k=>hF x.host k fun k=>hF x.bW k fun k=>f k⟩
instance:lY cE:=⟨fun x k f=>hF x.hv k fun k=>hF x.x k fun k=>f k⟩
instance:lY eM:=⟨fun x k f=>hF x.bQ k fun k=>hF x.post k fun k=>vR x.lL k fun k=>f k⟩
instance:lY dI:=⟨fun x k f=>hF x.kind k fun k=>hF x.page k fun k=>vR x.wr k fun k=>hF x.n k fun k=>f k⟩
instance:lY bV:=⟨fun x k f=>hF x.kind k fun k=>hF x.m k fun k=>hF x.g k fun k=>hF x.x k fun k=>hF x.y k fun k=>hF x.z k fun k=>f k⟩
instance:lY da:=⟨fun x k f=>vR x.ok k fun k=>hF x.n k fun k=>f k⟩
instance:lY bO:=⟨fun x k f=>gq (fS x.known k) fun k=>gq (fS x.bN k) fun k=>f k⟩
def apl (x:bO) (k:Int):Int:=gq (fS x.known k) fun k=>gq (fS x.bN k) fun k=>k
instance:lY az:=⟨fun x k f=>gq (fS x.prog k) fun k=>hF x.acc k fun k=>hF x.aN k fun k=>gq (fS x.written k) fun k=>gq (fS x.live k) fun k=>hF x.bH.bQ k fun k=>hF x.bH.post k fun k=>vR x.bH.lL k fun k=>hF x.av k fun k=>hF x.exit.kind k fun k=>hF x.exit.page k fun k=>vR x.exit.wr k fun k=>hF x.exit.n k fun k=>vR x.halted k fun k=>gq (fS x.seen k) fun k=>f k⟩
def apj (x:az) (k:Int):Int:=gq (fS x.prog k) fun k=>gq (fS x.written k) fun k=>gq (fS x.live k) fun k=>gq (fS x.seen k) fun k=>k
instance:lY aZ:=⟨fun x k f=>gq (fS x.outer k) fun k=>gq (fS x.out k) fun k=>gq (fS x.bj k) fun k=>gq (fS x.U k) fun k=>gq (fS x.outs k) fun k=>hF x.av k fun k=>hF x.bQ k fun k=>gq (fS x.tables k) fun k=>hF x.owned k fun k=>f k⟩
def apm (x:aZ) (k:Int):Int:=gq (fS x.outer k) fun k=>gq (fS x.out k) fun k=>gq (fS x.bj k) fun k=>gq (fS x.U k) fun k=>gq (fS x.outs k) fun k=>gq (fS x.tables k) fun k=>k
instance:lY a9:=⟨fun x k f=>gq (fS x.mem k) fun k=>gq (fS x.U k) fun k=>gq (fS x.outs k) fun k=>hF x.av k fun k=>f k⟩
def api (x:a9) (k:Int):Int:=gq (fS x.mem k) fun k=>gq (fS x.U k) fun k=>gq (fS x.outs k) fun k=>k
instance:lY ad:=⟨fun x k f=>gq (fS x.mem k) fun k=>gq (fS x.I k) fun k=>gq (fS x.buf k) fun k=>gq (fS x.ar k) fun k=>f k⟩
def apk (x:ad) (k:Int):Int:=gq (fS x.mem k) fun k=>gq (fS x.I k) fun k=>gq (fS x.buf k) fun k=>gq (fS x.ar k) fun k=>k
section
variable {w0:World} {M:aw} {u:World} {N:aw}
theorem aiT {K:Nat} {G:aw} {u:World} {x:az} {p:dB} {v:Int} (h:GT.own K G u x p) (bu:aq v):GT.own K G u ({x with av:=v}:az) p:=by
  obtain⟨du,dr,dN,ev,gC,cW,bM,c3,s,f0,f1,f2,f3,f4⟩:=h
  exact⟨du,dr,dN,ev,gC,cW,bM,c3,s,f0,f1,f2,bu,f4⟩
theorem Lq {K:Nat} {G:aw} {u:World} {x:aZ} {p:g6} {v:Int} (h:GT.own K G u x p) (bu:aq v):GT.own K G u ({x with av:=v}:aZ) p:=by
  obtain⟨du,dr,dN,ev,gX,hH,gC,cW,bM,c3,ej,gb,s,f0,f1,f2⟩:=h
  exact⟨du,dr,dN,ev,gX,hH,gC,cW,bM,c3,ej,gb,s,bu,f1,f2⟩
theorem aiV {K:Nat} {G:aw} {u:World} {x:aZ} {p:g6} {v:Int} (h:GT.own K G u x p) (bu:aq v):GT.own K G u ({x with bQ:=v}:aZ) p:=by
  obtain⟨du,dr,dN,ev,gX,hH,gC,cW,bM,c3,ej,gb,s,f0,f1,f2⟩:=h
  exact⟨du,dr,dN,ev,gX,hH,gC,cW,bM,c3,ej,gb,s,f0,bu,f2⟩
theorem aiU {K:Nat} {G:aw} {u:World} {x:aZ} {p:g6} {v:Int} (h:GT.own K G u x p) (bu:aq v):GT.own K G u ({x with owned:=v}:aZ) p:=by
  obtain⟨du,dr,dN,ev,gX,hH,gC,cW,bM,c3,ej,gb,s,f0,f1,f2⟩:=h
  exact⟨du,dr,dN,ev,gX,hH,gC,cW,bM,c3,ej,gb,s,f0,f1,bu⟩
end
def anf {α:Type} [GT α] [c1 α] (hd:α->Int->Int) (F:aw) (w:World) (p:GT.Ptr α) (x:α) (k:Int) (e:Ending) (w':World):Prop:=
  ∃(y:α) (kb:Int),e= .returned (R kb)/\bX F w w'/\(∃p',GT.cells y p'=GT.cells x p/\GT.own bz F w' y p')/\hd y k=kb/\k<=kb/\kb<=k+16*(c1.dh x:Nat)
section
variable {P:Program} {n:Nat} {w0:World} {M:aw} {u:World} {N:aw} {β:Nat->Nat} {σ:bw} {a:Act} {w:World} {ops:Array Oper} {cS:Act->World->Prop} {Q:Exit->Act->World->Prop}
end
class eL (α:Type) [GT α] [c1 α] where
  B:Nat
  kY:∀{F:aw} {w:World} {x:α} {p:GT.Ptr α},GT.rd bz F w x p->c1.dh x<=B
instance:eL Int:=⟨0,fun _=>Nat.le_refl _⟩
instance:eL Bool:=⟨0,fun _=>Nat.le_refl _⟩
theorem U0 {α:Type} [GT α] [c1 α] {m:Nat}:∀(xs:List α),(∀x,x∈xs->c1.dh x<=m)->(xs.map c1.dh).sum<=xs.length*m
  |
    [],_=>by simp
  |x::r,h=>by
    have:=U0 r fun y hy=>h y (List.mem_cons_of_mem _ hy)
    have:=h x List.mem_cons_self
    simp only [List.map_cons,List.sum_cons,List.length_cons,Nat.add_mul]
    omega
instance {α:Type} [GT α] [c1 α] [b:eL α]:eL (List α):=⟨4194304+4194304*b.B,fun {F w x p} h=>by
  have h1:x.length<=4194304:=ag.le h
  have ah:=U0 (m:=b.B) x fun y hy=>by
    obtain⟨i,hi,rfl⟩:=List.getElem_of_mem hy
    have:=ag.el h i hi
    rw [hJ hi] at this
    exact b.kY this
  have aE:x.length*b.B<=4194304*b.B:=Nat.mul_le_mul_right _ h1
  rw [alo]
  unfold mX
  omega⟩
instance:eL aA:=⟨0,fun _=>Nat.le_refl _⟩
instance:eL a0:=⟨0,fun _=>Nat.le_refl _⟩
instance:eL cE:=⟨0,fun _=>Nat.le_refl _⟩
instance:eL eM:=⟨0,fun _=>Nat.le_refl _⟩
instance:eL dI:=⟨0,fun _=>Nat.le_refl _⟩
instance:eL bV:=⟨0,fun _=>Nat.le_refl _⟩
instance:eL da:=⟨0,fun _=>Nat.le_refl _⟩
instance:eL bO:=⟨eL.B (List Bool)+eL.B (List aA),fun {F w x p} h=>by
  have e:=alk x
  have h0:=eL.kY (hV.known (d:=x) h)
  have h1:=eL.kY (hV.bN (d:=x) h)
  omega⟩
instance:eL az:=⟨eL.B (List cE)+eL.B (List aA)+eL.B (List aA)+eL.B (List Int),fun {F w x p} h=>by
  have e:=ali x
  have h0:=eL.kY (a5.prog (d:=x) h)
  have h1:=eL.kY (a5.written (d:=x) h)
  have ah:=eL.kY (a5.live (d:=x) h)
  have aE:=eL.kY (a5.seen (d:=x) h)
  omega⟩
instance:eL aZ:=⟨eL.B (List aA)+eL.B (List (List Int))+eL.B (List Bool)+eL.B (List az)+eL.B (List Int)+eL.B (List bO),fun {F w x p} h=>by
  have e:=alm x
  have h0:=eL.kY (bn.outer (d:=x) h)
  have h1:=eL.kY (bn.out (d:=x) h)
  have ah:=eL.kY (bn.bj (d:=x) h)
  have aE:=eL.kY (bn.U (d:=x) h)
  have b2:=eL.kY (bn.outs (d:=x) h)
  have cf:=eL.kY (bn.tables (d:=x) h)
  omega⟩
instance:eL a9:=⟨eL.B (List (List Int))+eL.B (List az)+eL.B (List Int),fun {F w x p} h=>by
  have e:=alh x
  have h0:=eL.kY (b_.mem (d:=x) h)
  have h1:=eL.kY (b_.U (d:=x) h)
  have ah:=eL.kY (b_.outs (d:=x) h)
  omega⟩
instance:eL ad:=⟨eL.B (List (List Int))+eL.B (List aZ)+eL.B (List a0)+eL.B (List a0),fun {F w x p} h=>by
  have e:=alj x
  have h0:=eL.kY (a4.mem (d:=x) h)
  have h1:=eL.kY (a4.I (d:=x) h)
  have ah:=eL.kY (a4.buf (d:=x) h)
  have aE:=eL.kY (a4.ar (d:=x) h)
  omega⟩
end Go.Proofs.YtmeoackmjdoecaaGreat
namespace Go.Proofs.YtmeoackmjdoecaaGreat
open Go
set_option linter.unusedSimpArgs false
def jo.b8 (p:jo) (a w:Nat):jo:=⟨p.nil,p.b,bif p.cap==a then p.off else p.off+a*w,p.cap-a,p.qR⟩
theorem jo.ak8 (p:jo) (w:Nat):p.b8 0 w=p:=by
  unfold jo.b8
  cases h:p.cap==0<;>simp
section
variable {P:Program} {u:World} {N:aw} {α:Type} [GT α] {xs:List α} {p:GT.Ptr (List α)}
theorem Ck {i y:Nat} (h:i<=y) (code:BoundsCode) (w:World):(Instr.sliceBound (R i) y code).run P w= .ok i w:=by
  unfold Instr.sliceBound
  have:0<=(i:Int)/\(i:Int)<=y:=⟨by omega,by omega⟩
  simp only [asIntOf,Sem.run_bind,Sem.run_pure,Result.andThen_ok,this,and_self,if_true,Int.toNat_natCast]
theorem Xj {b9 hi:Option Value} {a b n c:Nat} (Ax:b9=none/\a=0\/b9=some (R a)) (Dv:hi=none/\b=n\/hi=some (R b)) (lh:a<=b) (hb:b<=n) (hc:n<=c) (w:World):
    (Instr.sliceBounds true n c b9 hi none).run P w= .ok (a,b,c) w:=by
  unfold Instr.sliceBounds
  rcases Ax with⟨rfl,rfl⟩|rfl<;>rcases Dv with⟨rfl,rfl⟩|rfl
  · simp [Sem.run_bind,Sem.run_pure]
  · simp [Sem.run_bind,Sem.run_pure,Ck (show b<=c by omega)]
  · simp [Sem.run_bind,Sem.run_pure,Ck lh]
  · simp [Sem.run_bind,Sem.run_pure,Ck (show b<=c by omega),Ck lh]
theorem vb {K:Nat} (h:GT.rd K N u xs p) {t e:TypeId} {b9 hi:Option Value} {a b l:Nat} (hl:l=xs.length) (Ax:b9=none/\a=0\/b9=some (R a)) (Dv:hi=none/\b=xs.length\/hi=some (R b)) (lh:a<=b) (hb:b<=xs.length) (bC:P.underlying t=some (.slice e)) (he:jl P e=some (GT.width α)):
    fw P u N (.hG (Instr.sliceAt t (ab l p.1) b9 hi none)) (ab (b-a) (p.1.b8 a (GT.width α))):=fun w _=>by
  subst hl
  have vP:=ag.cap h
  show(Instr.sliceAt t (.slice p.1.addr xs.length p.1.cap) b9 hi none).run P w=_
  unfold Instr.sliceAt
  simp only [Sem.run_bind,run_underlying bC,Result.andThen_ok]
  unfold Instr.slice
  simp only [Sem.run_bind,run_underlying bC,Result.andThen_ok,Xj Ax Dv lh hb vP,uW he,Sem.run_pure]
  congr 2
  unfold jo.b8 jo.addr
  by_cases IU:p.1.cap=a
  · simp [IU]
  · have bA:(p.1.cap==a)=false:=by simpa using IU
    simp only [IU,if_false,bA,cond_false]
    cases bc:p.1.nil with
    |false=>simp [Addr.add_mid]
    |true=>
      have:xs.length=0:=by
        rcases Nat.eq_zero_or_pos xs.length with z|z
        · exact z
        · have:=(ag.at_ h z).1;rw [bc] at this;cases this
      have bR:a=0:=by omega
      subst bR
      cases p.1.qR<;>simp [Addr.add]
theorem pJ {K:Nat} (h:GT.rd K N u xs p) {a b:Nat} (lh:a<=b) (hb:b<=xs.length):GT.rd K N u ((xs.drop a).take (b-a)) ((p.1.b8 a (GT.width α),fun i=>p.2 (a+i)):af α):=by
  have hlen:((xs.drop a).take (b-a)).length=b-a:=by simp;omega
  have ks:∀i,i<b-a->el ((xs.drop a).take (b-a)) i=el xs (a+i):=fun i hi=>by
    unfold el
    rw [List.getD_eq_getElem?_getD,List.getD_eq_getElem?_getD,List.getElem?_take_of_lt hi,List.getElem?_drop]
  have vP:=ag.cap h
  have ad5:=ag.at_ h
  refine⟨by have:=ag.le h;omega,by show _<=p.1.cap-a;omega,fun z=>?_,fun i hi=>?_,fun i hi=>?_⟩
  · exact ad5 (by omega)
  · rw [hlen] at hi
    rw [ks i hi]
    have bA:(p.1.cap==a)=false:=by simp;omega
    have:=ag.cell h (a+i) (by omega)
    show k6 u p.1.b ((bif p.1.cap==a then p.1.off else p.1.off+a*GT.width α)+i*GT.width α) _
    rw [bA]
    simp only [cond_false]
    rw [Nat.add_assoc,←Nat.add_mul]
    exact this
  · rw [hlen] at hi
    rw [ks i hi]
    exact ag.el h (a+i) (by omega)
end
end Go.Proofs.YtmeoackmjdoecaaGreat
namespace Go.Proofs.YtmeoackmjdoecaaGreat
open Go
set_option linter.unusedVariables false
theorem rN {F H dc Fy:aw} {l:List aw} (s:nK F l) {i:Nat} (hi:l[i]? =some H) (h1:∀b,dc b->H b\/Fy b) (hd:J F Fy):nK (Or F dc) (l.set i dc):=by
  have dP:∀b,H b->F b:=s.sub H (List.mem_of_getElem? hi)
  obtain⟨Ro,Rn⟩:=List.getElem?_eq_some_iff.1 hi
  refine⟨fun G cu b hb=>?_,?_⟩
  · rcases List.mem_or_eq_of_mem_set cu with h|rfl
    · exact Or.inl (s.sub G h b hb)
    · exact Or.inr hb
  · have key:∀j (bJ:j<l.length),j≠i->J (l[j]) dc:=fun j bJ gD b hb et=>by
      rcases h1 b et with h|h
      · rcases Nat.lt_or_gt_of_ne gD with fs|I4
        · exact List.pairwise_iff_getElem.1 s.dJ j i bJ Ro fs b hb (Rn▸h)
        · exact List.pairwise_iff_getElem.1 s.dJ i j Ro bJ I4 b (Rn▸h) hb
      · exact hd b (s.sub _ (List.getElem_mem bJ) b hb) h
    rw [List.pairwise_iff_getElem]
    intro a c bR hc adX
    rw [List.length_set] at bR hc
    rw [List.getElem_set,List.getElem_set]
    by_cases bA:i=a
    · rw [if_pos bA,if_neg (by omega)]
      exact(key c hc (by omega)).symm
    · rw [if_neg bA]
      by_cases bt:i=c
      · rw [if_pos bt];exact key a bR (fun h=>bA h.symm)
      · rw [if_neg bt];exact List.pairwise_iff_getElem.1 s.dJ a c bR hc adX
section
variable {w0:World} {M:aw} {u:World} {N:aw}
theorem ai.Px {α β:Type} [GT α] [GT β] {xs:List α} {p:af α} {F:aw} (o:ai w0 M u N F xs p) {k:Nat} (hk:k<xs.length) (get:α->β) (rG:GT.Ptr α->GT.Ptr β) (set:α->β->α) (uO:GT.Ptr α->GT.Ptr β->GT.Ptr α)
    (vL:∀(G:aw) (u:World) (x:α) (r:GT.Ptr α),GT.own bz G u x r->∃H:aw,GT.own bz H u (get x) (rG r)/\(∀b,H b->G b)/\∀(c8:World) (y:β) (q:GT.Ptr β) (dc Fy:aw),GT.own bz dc c8 y q->(∀b,dc b->H b\/Fy b)->J G Fy->(∀b,G b->¬H b->c8.heap[b]? =u.heap[b]?)->GT.cells y q=GT.cells (get x) (rG r)->GT.own bz (Or G dc) c8 (set x y) (uO r q)/\GT.cells (set x y) (uO r q)=GT.cells x r):
    ∃H:aw,ai w0 M u N H (get (el xs k)) (rG (p.2 k))/\(∀b,H b->F b)/\∀(c8:World) (aH:aw) (y:β) (q:GT.Ptr β) (dc Fy:aw),(∀b,N b->¬H b->aH b/\c8.heap[b]? =u.heap[b]?)->ai w0 M c8 aH dc y q->(∀b,dc b->H b\/Fy b)->J F Fy->GT.cells y q=GT.cells (get (el xs k)) (rG (p.2 k))->
      (∀b,H b->aH b)->ai w0 M c8 aH (Or F dc) (xs.set k (set (el xs k) y)) ((p.1,fun i=>if i=k then uO (p.2 k) q else p.2 i):af α)/\∀j,GT.cells (el (xs.set k (set (el xs k) y)) j) ((fun i=>if i=k then uO (p.2 k) q else p.2 i) j)=GT.cells (el xs j) (p.2 j):=by
  have bD:jU bz F u xs p:=o.own
  obtain⟨G,cW,bM,c3⟩:=bD.el
  obtain⟨H,h1,ah,aE⟩:=vL (G k) u (el xs k) (p.2 k) (cW k hk)
  have HO:∀b,H b->F b:=fun b hb=>(bM k hk b (ah b hb)).1
  refine⟨H,⟨h1,fun b hb=>o.sub b (HO b hb),fun b hb=>o.cU b (HO b hb)⟩,HO,fun c8 aH y q dc Fy up Bg hs hd hc ac3=>?_⟩
  have keep:∀b,F b->¬H b->c8.heap[b]? =u.heap[b]? :=fun b hb bc=>(up b (o.sub b hb) bc).2
  have vP:=bD.cap
  have ph:p.1.nil=false:=bD.A0 (by omega)
  have Jo:¬H p.1.b:=fun hb=>(bM k hk _ (ah _ hb)).2 rfl
  have Jn:F p.1.b:=(bD.row ph).1
  obtain⟨bd,fl⟩:=aE c8 y q dc Fy Bg.own hs (fun b hb bm=>hd b (bM k hk b hb).1 bm) (fun b hb bc=>keep b (bM k hk b hb).1 bc) hc
  refine⟨⟨?_,?_,fun b hb=>hb.elim (o.cU b) (Bg.cU b)⟩,fun j=>?_⟩
  rotate_right
  · by_cases e:j=k
    · subst e
      rw [fg hk]
      simp only [if_true]
      exact fl
    · rw [lB e]
      simp only [if_neg e]
  · show jU bz (Or F dc) c8 _ _
    refine⟨by rw [List.length_set];exact bD.le,by rw [List.length_set];exact bD.cap,bD.o4,bD.null,fun z=>⟨Or.inl (bD.row z).1,?_⟩,fun i hi=>?_,fun i=>if i=k then Or (G k) dc else G i,fun i hi=>?_,?_,?_⟩
    · rw [keep _ Jn Jo];exact(bD.row z).2
    · rw [List.length_set] at hi
      have k2:k6 c8 p.1.b (p.1.off+i*GT.width α) (GT.cells (el xs i) (p.2 i)):=(bD.cell i hi).qU (keep _ Jn Jo)
      by_cases e:i=k
      · subst e
        rw [fg hi]
        simp only [if_true]
        rw [fl];exact k2
      · rw [lB e]
        simp only [if_neg e]
        exact k2
    · rw [List.length_set] at hi
      by_cases e:i=k
      · subst e
        rw [fg hi]
        simp only [if_true]
        exact bd
      · rw [lB e]
        simp only [if_neg e]
        exact GT.c7 (cW i hi) fun b hb _=>keep b (bM i hi b hb).1 fun dP=>c3 i k hi hk e b hb (ah b dP)
    · intro i hi;rw [List.length_set] at hi
      intro b hb
      by_cases e:i=k
      · subst e
        simp only [if_true] at hb
        rcases hb with hb|hb
        · exact⟨Or.inl (bM i hi b hb).1,(bM i hi b hb).2⟩
        · refine⟨Or.inr hb,fun bt=>?_⟩
          rcases hs b hb with h|h
          · exact Jo (bt▸h)
          · exact hd _ Jn (bt▸h)
      · simp only [if_neg e] at hb
        exact⟨Or.inl (bM i hi b hb).1,(bM i hi b hb).2⟩
    · have key:∀i,i<xs.length->i≠k->J (G i) (Or (G k) dc):=fun i hi gD b hb et=>by
        rcases et with et|et
        · exact c3 i k hi hk gD b hb et
        · rcases hs b et with h|h
          · exact c3 i k hi hk gD b hb (ah b h)
          · exact hd b (bM i hi b hb).1 h
      intro i j hi bJ qg;rw [List.length_set] at hi bJ
      by_cases bA:i=k
      · by_cases bt:j=k
        · exact absurd (bA.trans bt.symm) qg
        · simp only [if_pos bA,if_neg bt];exact(key j bJ bt).symm
      · by_cases bt:j=k
        · simp only [if_neg bA,if_pos bt];exact key i hi bA
        · simp only [if_neg bA,if_neg bt];exact c3 i j hi bJ qg
  · intro b hb
    rcases hb with hb|hb
    · by_cases dP:H b
      · exact ac3 b dP
      · exact(up b (o.sub b hb) dP).1
    · exact Bg.sub b hb
theorem ai.xM {α β:Type} [GT α] [GT β] {xs:List α} {p:af α} {F:aw} (o:ai w0 M u N F xs p) {k:Nat} (hk:k<xs.length) (get:α->β) (rG:GT.Ptr α->GT.Ptr β) (set:α->β->α) (uO:GT.Ptr α->GT.Ptr β->GT.Ptr α)
    (vL:∀(G:aw) (u:World) (x:α) (r:GT.Ptr α),GT.own bz G u x r->∃H:aw,GT.own bz H u (get x) (rG r)/\(∀b,H b->G b)/\∀(c8:World) (y:β) (q:GT.Ptr β) (dc Fy:aw),GT.own bz dc c8 y q->(∀b,dc b->H b\/Fy b)->J G Fy->(∀b,G b->¬H b->c8.heap[b]? =u.heap[b]?)->GT.cells y q=GT.cells (get x) (rG r)->GT.own bz (Or G dc) c8 (set x y) (uO r q)/\GT.cells (set x y) (uO r q)=GT.cells x r):
    ∃H:aw,ai w0 M u N H (get (el xs k)) (rG (p.2 k))/\(∀b,H b->F b)/\∀(c8:World) (aH:aw) (y:β) (q:GT.Ptr β) (dc Fy:aw),(∀b,N b->¬H b->aH b/\c8.heap[b]? =u.heap[b]?)->ai w0 M c8 aH dc y q->(∀b,dc b->H b\/Fy b)->J F Fy->GT.cells y q=GT.cells (get (el xs k)) (rG (p.2 k))->
      (∀b,H b->aH b)->∃cp,ai w0 M c8 aH (Or F dc) (xs.set k (set (el xs k) y)) (p.1,cp)/\∀j,GT.cells (el (xs.set k (set (el xs k) y)) j) (cp j)=GT.cells (el xs j) (p.2 j):=by
  obtain⟨H,h1,ah,aE⟩:=o.Px hk get rG set uO vL
  exact⟨H,h1,ah,fun c8 aH y q dc Fy a b c d e f=>⟨_,aE c8 aH y q dc Fy a b c d e f⟩⟩
theorem kq {β:Type} [GT β] {xs:List β} {p:af β} {F:aw} (o:ai w0 M u N F xs p) {k:Nat} (hk:k<xs.length):
    ∃
      H:aw,ai w0 M u N H (el xs k) (p.2 k)/\(∀b,H b->F b)/\∀(c8:World) (aH:aw) (y:β) (q:GT.Ptr (β)) (dc Fy:aw),(∀b,N b->¬H b->aH b/\c8.heap[b]? =u.heap[b]?)->ai w0 M c8 aH dc y q->(∀b,dc b->H b\/Fy b)->J F Fy->GT.cells y q=GT.cells (el xs k) (p.2 k)->(∀b,H b->aH b)->
      ∃cp,ai w0 M c8 aH (Or F dc) (xs.set k y) (p.1,cp)/\∀j,GT.cells (el (xs.set k y) j) (cp j)=GT.cells (el xs j) (p.2 j):=
  o.xM hk (fun x=>x) (fun r=>r) (fun _ y=>y) (fun _ q=>q) fun G u x r h=>⟨G,h,fun _ z=>z,fun _ _ _ _ _ h' _ _ _ hc=>⟨GT.fC h' (Nat.le_refl _) (fun _ z=>Or.inr z),hc⟩⟩
theorem Da {xs:List aZ} {p:af aZ} {F:aw} (o:ai w0 M u N F xs p) {k:Nat} (hk:k<xs.length):
    ∃
      H:aw,ai w0 M u N H (el xs k).outer (p.2 k).outer/\(∀b,H b->F b)/\∀(c8:World) (aH:aw) (y:List aA) (q:GT.Ptr (List aA)) (dc Fy:aw),(∀b,N b->¬H b->aH b/\c8.heap[b]? =u.heap[b]?)->ai w0 M c8 aH dc y q->(∀b,dc b->H b\/Fy b)->J F Fy->GT.cells y q=GT.cells (el xs k).outer (p.2 k).outer->(∀b,H b->aH b)->
      ∃cp,ai w0 M c8 aH (Or F dc) (xs.set k {el xs k with outer:=y}) (p.1,cp)/\∀j,GT.cells (el (xs.set k {el xs k with outer:=y}) j) (cp j)=GT.cells (el xs j) (p.2 j):=
  o.xM hk (fun x=>x.outer) (fun r=>r.outer) (fun x y=>{x with outer:=y}) (fun r q=>{r with outer:=q}) fun G u x r h=>by
    obtain⟨du,dr,dN,ev,gX,hH,gC,cW,bM,c3,ej,gb,s,f0,f1,f2⟩:=h
    refine⟨du,gC,s.sub _ (by simp),fun c8 y q dc Fy h' hs hd hw hc=>⟨⟨dc,dr,dN,ev,gX,hH,h',GT.c7 cW fun b hb _=>hw b (s.sub _ (by simp) b hb) fun dP=>(ea s.dJ (i:=0) (j:=1) (by decide) rfl rfl) b dP hb,GT.c7 bM fun b hb _=>hw b (s.sub _ (by simp) b hb) fun dP=>(ea s.dJ (i:=0) (j:=2) (by decide) rfl rfl) b dP hb,GT.c7 c3 fun b hb _=>hw b (s.sub _ (by simp) b hb) fun dP=>(ea s.dJ (i:=0) (j:=3) (by decide) rfl rfl) b dP hb,GT.c7 ej fun b hb _=>hw b (s.sub _ (by simp) b hb) fun dP=>(ea s.dJ (i:=0) (j:=4) (by decide) rfl rfl) b dP hb,GT.c7 gb fun b hb _=>hw b (s.sub _ (by simp) b hb) fun dP=>(ea s.dJ (i:=0) (j:=5) (by decide) rfl rfl) b dP hb,rN s (i:=0) rfl hs hd,f0,f1,f2⟩,?_⟩⟩
    have e:=(List.cons.inj hc).1
    show [ab y.length q.1,ab x.out.length r.out.1,ab x.bj.length r.bj.1,ab x.U.length r.U.1,ab x.outs.length r.outs.1,R x.av,R x.bQ,ab x.tables.length r.tables.1,R x.owned]=[ab x.outer.length r.outer.1,ab x.out.length r.out.1,ab x.bj.length r.bj.1,ab x.U.length r.U.1,ab x.outs.length r.outs.1,R x.av,R x.bQ,ab x.tables.length r.tables.1,R x.owned]
    rw [e]
theorem Pw {xs:List aZ} {p:af aZ} {F:aw} (o:ai w0 M u N F xs p) {k:Nat} (hk:k<xs.length):
    ∃
      H:aw,ai w0 M u N H (el xs k).out (p.2 k).out/\(∀b,H b->F b)/\∀(c8:World) (aH:aw) (y:List (List Int)) (q:GT.Ptr (List (List Int))) (dc Fy:aw),(∀b,N b->¬H b->aH b/\c8.heap[b]? =u.heap[b]?)->ai w0 M c8 aH dc y q->(∀b,dc b->H b\/Fy b)->J F Fy->GT.cells y q=GT.cells (el xs k).out (p.2 k).out->(∀b,H b->aH b)->
      ∃cp,ai w0 M c8 aH (Or F dc) (xs.set k {el xs k with out:=y}) (p.1,cp)/\∀j,GT.cells (el (xs.set k {el xs k with out:=y}) j) (cp j)=GT.cells (el xs j) (p.2 j):=
  o.xM hk (fun x=>x.out) (fun r=>r.out) (fun x y=>{x with out:=y}) (fun r q=>{r with out:=q}) fun G u x r h=>by
    obtain⟨du,dr,dN,ev,gX,hH,gC,cW,bM,c3,ej,gb,s,f0,f1,f2⟩:=h
    refine⟨dr,cW,s.sub _ (by simp),fun c8 y q dc Fy h' hs hd hw hc=>⟨⟨du,dc,dN,ev,gX,hH,GT.c7 gC fun b hb _=>hw b (s.sub _ (by simp) b hb) fun dP=>(ea s.dJ (i:=0) (j:=1) (by decide) rfl rfl) b hb dP,h',GT.c7 bM fun b hb _=>hw b (s.sub _ (by simp) b hb) fun dP=>(ea s.dJ (i:=1) (j:=2) (by decide) rfl rfl) b dP hb,GT.c7 c3 fun b hb _=>hw b (s.sub _ (by simp) b hb) fun dP=>(ea s.dJ (i:=1) (j:=3) (by decide) rfl rfl) b dP hb,GT.c7 ej fun b hb _=>hw b (s.sub _ (by simp) b hb) fun dP=>(ea s.dJ (i:=1) (j:=4) (by decide) rfl rfl) b dP hb,GT.c7 gb fun b hb _=>hw b (s.sub _ (by simp) b hb) fun dP=>(ea s.dJ (i:=1) (j:=5) (by decide) rfl rfl) b dP hb,rN s (i:=1) rfl hs hd,f0,f1,f2⟩,?_⟩⟩
    have e:=(List.cons.inj hc).1
    show [ab x.outer.length r.outer.1,ab y.length q.1,ab x.bj.length r.bj.1,ab x.U.length r.U.1,ab x.outs.length r.outs.1,R x.av,R x.bQ,ab x.tables.length r.tables.1,R x.owned]=[ab x.outer.length r.outer.1,ab x.out.length r.out.1,ab x.bj.length r.bj.1,ab x.U.length r.U.1,ab x.outs.length r.outs.1,R x.av,R x.bQ,ab x.tables.length r.tables.1,R x.owned]
    rw [e]
theorem zT {xs:List aZ} {p:af aZ} {F:aw} (o:ai w0 M u N F xs p) {k:Nat} (hk:k<xs.length):
    ∃
      H:aw,ai w0 M u N H (el xs k).bj (p.2 k).bj/\(∀b,H b->F b)/\∀(c8:World) (aH:aw) (y:List Bool) (q:GT.Ptr (List Bool)) (dc Fy:aw),(∀b,N b->¬H b->aH b/\c8.heap[b]? =u.heap[b]?)->ai w0 M c8 aH dc y q->(∀b,dc b->H b\/Fy b)->J F Fy->GT.cells y q=GT.cells (el xs k).bj (p.2 k).bj->(∀b,H b->aH b)->
      ∃cp,ai w0 M c8 aH (Or F dc) (xs.set k {el xs k with bj:=y}) (p.1,cp)/\∀j,GT.cells (el (xs.set k {el xs k with bj:=y}) j) (cp j)=GT.cells (el xs j) (p.2 j):=
  o.xM hk (fun x=>x.bj) (fun r=>r.bj) (fun x y=>{x with bj:=y}) (fun r q=>{r with bj:=q}) fun G u x r h=>by
    obtain⟨du,dr,dN,ev,gX,hH,gC,cW,bM,c3,ej,gb,s,f0,f1,f2⟩:=h
    refine⟨dN,bM,s.sub _ (by simp),fun c8 y q dc Fy h' hs hd hw hc=>⟨⟨du,dr,dc,ev,gX,hH,GT.c7 gC fun b hb _=>hw b (s.sub _ (by simp) b hb) fun dP=>(ea s.dJ (i:=0) (j:=2) (by decide) rfl rfl) b hb dP,GT.c7 cW fun b hb _=>hw b (s.sub _ (by simp) b hb) fun dP=>(ea s.dJ (i:=1) (j:=2) (by decide) rfl rfl) b hb dP,h',GT.c7 c3 fun b hb _=>hw b (s.sub _ (by simp) b hb) fun dP=>(ea s.dJ (i:=2) (j:=3) (by decide) rfl rfl) b dP hb,GT.c7 ej fun b hb _=>hw b (s.sub _ (by simp) b hb) fun dP=>(ea s.dJ (i:=2) (j:=4) (by decide) rfl rfl) b dP hb,GT.c7 gb fun b hb _=>hw b (s.sub _ (by simp) b hb) fun dP=>(ea s.dJ (i:=2) (j:=5) (by decide) rfl rfl) b dP hb,rN s (i:=2) rfl hs hd,f0,f1,f2⟩,?_⟩⟩
    have e:=(List.cons.inj hc).1
    show [ab x.outer.length r.outer.1,ab x.out.length r.out.1,ab y.length q.1,ab x.U.length r.U.1,ab x.outs.length r.outs.1,R x.av,R x.bQ,ab x.tables.length r.tables.1,R x.owned]=[ab x.outer.length r.outer.1,ab x.out.length r.out.1,ab x.bj.length r.bj.1,ab x.U.length r.U.1,ab x.outs.length r.outs.1,R x.av,R x.bQ,ab x.tables.length r.tables.1,R x.owned]
    rw [e]
theorem xL {xs:List aZ} {p:af aZ} {F:aw} (o:ai w0 M u N F xs p) {k:Nat} (hk:k<xs.length):
    ∃
      H:aw,ai w0 M u N H (el xs k).U (p.2 k).U/\(∀b,H b->F b)/\∀(c8:World) (aH:aw) (y:List az) (q:GT.Ptr (List az)) (dc Fy:aw),(∀b,N b->¬H b->aH b/\c8.heap[b]? =u.heap[b]?)->ai w0 M c8 aH dc y q->(∀b,dc b->H b\/Fy b)->J F Fy->GT.cells y q=GT.cells (el xs k).U (p.2 k).U->(∀b,H b->aH b)->
      ∃cp,ai w0 M c8 aH (Or F dc) (xs.set k {el xs k with U:=y}) (p.1,cp)/\∀j,GT.cells (el (xs.set k {el xs k with U:=y}) j) (cp j)=GT.cells (el xs j) (p.2 j):=
  o.xM hk (fun x=>x.U) (fun r=>r.U) (fun x y=>{x with U:=y}) (fun r q=>{r with U:=q}) fun G u x r h=>by
    obtain⟨du,dr,dN,ev,gX,hH,gC,cW,bM,c3,ej,gb,s,f0,f1,f2⟩:=h
    refine⟨ev,c3,s.sub _ (by simp),fun c8 y q dc Fy h' hs hd hw hc=>⟨⟨du,dr,dN,dc,gX,hH,GT.c7 gC fun b hb _=>hw b (s.sub _ (by simp) b hb) fun dP=>(ea s.dJ (i:=0) (j:=3) (by decide) rfl rfl) b hb dP,GT.c7 cW fun b hb _=>hw b (s.sub _ (by simp) b hb) fun dP=>(ea s.dJ (i:=1) (j:=3) (by decide) rfl rfl) b hb dP,GT.c7 bM fun b hb _=>hw b (s.sub _ (by simp) b hb) fun dP=>(ea s.dJ (i:=2) (j:=3) (by decide) rfl rfl) b hb dP,h',GT.c7 ej fun b hb _=>hw b (s.sub _ (by simp) b hb) fun dP=>(ea s.dJ (i:=3) (j:=4) (by decide) rfl rfl) b dP hb,GT.c7 gb fun b hb _=>hw b (s.sub _ (by simp) b hb) fun dP=>(ea s.dJ (i:=3) (j:=5) (by decide) rfl rfl) b dP hb,rN s (i:=3) rfl hs hd,f0,f1,f2⟩,?_⟩⟩
    have e:=(List.cons.inj hc).1
    show [ab x.outer.length r.outer.1,ab x.out.length r.out.1,ab x.bj.length r.bj.1,ab y.length q.1,ab x.outs.length r.outs.1,R x.av,R x.bQ,ab x.tables.length r.tables.1,R x.owned]=[ab x.outer.length r.outer.1,ab x.out.length r.out.1,ab x.bj.length r.bj.1,ab x.U.length r.U.1,ab x.outs.length r.outs.1,R x.av,R x.bQ,ab x.tables.length r.tables.1,R x.owned]
    rw [e]
theorem Ez {K:Nat} {G Fy:aw} {u:World} {x:aZ} {p:g6} {l:List az} {q:GT.Ptr (List az)} (h:GT.own K G u x p) (hl:GT.own K Fy u l q) (hd:J G Fy):GT.own K (Or G Fy) u ({x with U:=l}:aZ) {p with U:=q}:=by
  obtain⟨du,dr,dN,ev,gX,hH,gC,cW,bM,c3,ej,gb,s,f0,f1,f2⟩:=h
  exact⟨du,dr,dN,Fy,gX,hH,gC,cW,bM,hl,ej,gb,rN s (i:=3) rfl (fun _ z=> .inr z) hd,f0,f1,f2⟩
theorem zU {xs:List aZ} {p:af aZ} {F:aw} (o:ai w0 M u N F xs p) {k:Nat} (hk:k<xs.length):
    ∃
      H:aw,ai w0 M u N H (el xs k).tables (p.2 k).tables/\(∀b,H b->F b)/\∀(c8:World) (aH:aw) (y:List bO) (q:GT.Ptr (List bO)) (dc Fy:aw),(∀b,N b->¬H b->aH b/\c8.heap[b]? =u.heap[b]?)->ai w0 M c8 aH dc y q->(∀b,dc b->H b\/Fy b)->J F Fy->GT.cells y q=GT.cells (el xs k).tables (p.2 k).tables->(∀b,H b->aH b)->
      ∃cp,ai w0 M c8 aH (Or F dc) (xs.set k {el xs k with tables:=y}) (p.1,cp)/\∀j,GT.cells (el (xs.set k {el xs k with tables:=y}) j) (cp j)=GT.cells (el xs j) (p.2 j):=
  o.xM hk (fun x=>x.tables) (fun r=>r.tables) (fun x y=>{x with tables:=y}) (fun r q=>{r with tables:=q}) fun G u x r h=>by
    obtain⟨du,dr,dN,ev,gX,hH,gC,cW,bM,c3,ej,gb,s,f0,f1,f2⟩:=h
    refine⟨hH,gb,s.sub _ (by simp),fun c8 y q dc Fy h' hs hd hw hc=>⟨⟨du,dr,dN,ev,gX,dc,GT.c7 gC fun b hb _=>hw b (s.sub _ (by simp) b hb) fun dP=>(ea s.dJ (i:=0) (j:=5) (by decide) rfl rfl) b hb dP,GT.c7 cW fun b hb _=>hw b (s.sub _ (by simp) b hb) fun dP=>(ea s.dJ (i:=1) (j:=5) (by decide) rfl rfl) b hb dP,GT.c7 bM fun b hb _=>hw b (s.sub _ (by simp) b hb) fun dP=>(ea s.dJ (i:=2) (j:=5) (by decide) rfl rfl) b hb dP,GT.c7 c3 fun b hb _=>hw b (s.sub _ (by simp) b hb) fun dP=>(ea s.dJ (i:=3) (j:=5) (by decide) rfl rfl) b hb dP,GT.c7 ej fun b hb _=>hw b (s.sub _ (by simp) b hb) fun dP=>(ea s.dJ (i:=4) (j:=5) (by decide) rfl rfl) b hb dP,h',rN s (i:=5) rfl hs hd,f0,f1,f2⟩,?_⟩⟩
    have e:=(List.cons.inj hc).1
    show [ab x.outer.length r.outer.1,ab x.out.length r.out.1,ab x.bj.length r.bj.1,ab x.U.length r.U.1,ab x.outs.length r.outs.1,R x.av,R x.bQ,ab y.length q.1,R x.owned]=[ab x.outer.length r.outer.1,ab x.out.length r.out.1,ab x.bj.length r.bj.1,ab x.U.length r.U.1,ab x.outs.length r.outs.1,R x.av,R x.bQ,ab x.tables.length r.tables.1,R x.owned]
    rw [e]
theorem TJ {K:Nat} {G Fy:aw} {u:World} {x:ad} {p:cK} {l:List (List Int)} {q:GT.Ptr (List (List Int))} (h:GT.own K G u x p) (hl:GT.own K Fy u l q) (hd:J G Fy):GT.own K (Or G Fy) u ({x with mem:=l}:ad) {p with mem:=q}:=by
  obtain⟨du,dr,dN,ev,gC,cW,bM,c3,s⟩:=h
  exact⟨Fy,dr,dN,ev,hl,cW,bM,c3,rN s (i:=0) rfl (fun _ z=> .inr z) hd⟩
theorem aba {xs:List ad} {p:af ad} {F:aw} (o:ai w0 M u N F xs p) {k:Nat} (hk:k<xs.length):
    ∃
      H:aw,ai w0 M u N H (el xs k).I (p.2 k).I/\(∀b,H b->F b)/\∀(c8:World) (aH:aw) (y:List aZ) (q:GT.Ptr (List aZ)) (dc Fy:aw),(∀b,N b->¬H b->aH b/\c8.heap[b]? =u.heap[b]?)->ai w0 M c8 aH dc y q->(∀b,dc b->H b\/Fy b)->J F Fy->GT.cells y q=GT.cells (el xs k).I (p.2 k).I->(∀b,H b->aH b)->
      ai w0 M c8 aH (Or F dc) (xs.set k {el xs k with I:=y}) ((p.1,fun i=>if i=k then({p.2 k with I:=q}:cK) else p.2 i):af ad):=by
  obtain⟨H,h1,ah,aE⟩:=o.Px hk (fun x=>x.I) (fun r=>r.I) (fun x y=>{x with I:=y}) (fun r q=>{r with I:=q}) fun G u x r h=>by
    obtain⟨du,dr,dN,ev,gC,cW,bM,c3,s⟩:=h
    refine⟨dr,cW,s.sub _ (by simp),fun c8 y q dc Fy h' hs hd hw hc=>⟨⟨du,dc,dN,ev,GT.c7 gC fun b hb _=>hw b (s.sub _ (by simp) b hb) fun dP=>(ea s.dJ (i:=0) (j:=1) (by decide) rfl rfl) b hb dP,h',GT.c7 bM fun b hb _=>hw b (s.sub _ (by simp) b hb) fun dP=>(ea s.dJ (i:=1) (j:=2) (by decide) rfl rfl) b dP hb,GT.c7 c3 fun b hb _=>hw b (s.sub _ (by simp) b hb) fun dP=>(ea s.dJ (i:=1) (j:=3) (by decide) rfl rfl) b dP hb,rN s (i:=1) rfl hs hd⟩,?_⟩⟩
    have e:=(List.cons.inj hc).1
    show [ab x.mem.length r.mem.1,ab y.length q.1,ab x.buf.length r.buf.1,ab x.ar.length r.ar.1]=[ab x.mem.length r.mem.1,ab x.I.length r.I.1,ab x.buf.length r.buf.1,ab x.ar.length r.ar.1]
    rw [e]
  exact⟨H,h1,ah,fun c8 aH y q dc Fy a b c d e f=>(aE c8 aH y q dc Fy a b c d e f).1⟩
theorem Lh {K:Nat} {G Fy:aw} {u:World} {x:ad} {p:cK} {l:List a0} {q:GT.Ptr (List a0)} (h:GT.own K G u x p) (hl:GT.own K Fy u l q) (hd:J G Fy):GT.own K (Or G Fy) u ({x with buf:=l}:ad) {p with buf:=q}:=by
  obtain⟨du,dr,dN,ev,gC,cW,bM,c3,s⟩:=h
  exact⟨du,dr,Fy,ev,gC,cW,hl,c3,rN s (i:=2) rfl (fun _ z=> .inr z) hd⟩
theorem Li {K:Nat} {G Fy:aw} {u:World} {x:ad} {p:cK} {l:List a0} {q:GT.Ptr (List a0)} (h:GT.own K G u x p) (hl:GT.own K Fy u l q) (hd:J G Fy):GT.own K (Or G Fy) u ({x with ar:=l}:ad) {p with ar:=q}:=by
  obtain⟨du,dr,dN,ev,gC,cW,bM,c3,s⟩:=h
  exact⟨du,dr,dN,Fy,gC,cW,bM,hl,rN s (i:=3) rfl (fun _ z=> .inr z) hd⟩
end
end Go.Proofs.YtmeoackmjdoecaaGreat
namespace Go.Proofs.YtmeoackmjdoecaaGreat
open Go
def gL (k:bO) (page:Int):bO:=
  if(0<=page/\page<k.known.length)/\page<k.bN.length then⟨k.known.set page.toNat false,k.bN.set page.toNat ⟨-1,0⟩⟩ else k
def r8 (k:bO) (n:Nat):bO:=(List.range n).foldl (fun k (i:Nat)=>gL k (i:Int)) k
def j1 (k:bO):bO:=r8 k k.known.length
theorem PC (k:bO) (n:Nat):r8 k (n+1)=gL (r8 k n) (n:Int):=by
  unfold r8;rw [List.range_succ,List.foldl_append];rfl
theorem abf (k:bO) (p:Int):(gL k p).known.length=k.known.length/\(gL k p).bN.length=k.bN.length:=by
  unfold gL;split<;>simp
theorem abe (k:bO) (n:Nat):(r8 k n).known.length=k.known.length/\(r8 k n).bN.length=k.bN.length:=by
  induction n with
  |zero=>exact⟨rfl,rfl⟩
  |succ n gQ=>
    rw [PC]
    have:=abf (r8 k n) (n:Int)
    omega
def C5 (m:aZ):aZ:={m with tables:=m.tables.map j1}
def la (h:ad):ad:=⟨h.mem,h.I.map C5,[],[]⟩
def hK (b:a9):Bool:=b.U.all na&&iy b.mem 8&&aS b.U.length 1 2&&decide (b.outs.length<=40)&&aS b.av 0 255
theorem zm {b:a9} (h:hK b=true):1<=b.U.length/\b.U.length<=2/\0<=b.av/\b.av<=255:=by
  simp only [hK,Bool.and_eq_true] at h
  have h1:=cM h.1.1.2
  have ah:=cM h.2
  omega
def tH (c:eM) (n:Int):Bool:=km c&&aS n 0 7&&(mg (qA c.post n) 1==1)
def dm (b:a9) (n:Int):List Int:=j3 b.U.length fun i=>tH (el b.U i).bH n
def fr (p n:Int):Int×Bool:=if aS p 0 255=true/\aS n 0 7=true then(AS p (oS 1 n),true) else(p,false)
theorem Lw {p n:Int} (h:aq p):aq (fr p n).1:=by
  unfold fr
  split
  · exact agw _ _
  · exact h
def uY (n:Int) (gs:List az) (g:Int):List az:=gs.set g.toNat {el gs g.toNat with av:=(fr (el gs g.toNat).av n).1}
def iM (b:a9) (n:Int):a9×Bool:=
  if hK b=true/\0<=n/\n<=7 then
    (⟨b.mem,(dm b n).foldl (uY n) b.U,b.outs,if(dm b n).length=0 then(fr b.av n).1 else b.av⟩,true)
  else(b,false)
theorem afo {n:Nat} {p:Nat->Bool} {k:Nat}:k<(j3 n p).length->0<=el (j3 n p) k/\el (j3 n p) k<n:=fun h=>by
  rw [hJ h]
  have hm:=List.getElem_mem h
  unfold j3 at hm
  obtain⟨i,hi,he⟩:=List.mem_map.1 hm
  have:=List.mem_range.1 (List.mem_filter.1 hi).1
  unfold j3
  omega
theorem ai8 {b:a9} {n:Int} {k:Nat} (h:0<b.U.length):0<=el (dm b n) k/\el (dm b n) k<b.U.length:=by
  by_cases hk:k<(dm b n).length
  · exact afo hk
  · have:el (dm b n) k=0:=by
      unfold el
      rw [List.getD_eq_getElem?_getD,List.getElem?_eq_none (by omega)]
      rfl
    omega
theorem tB {r n:Int} (h:eB r n=true):0<=n/\n<=3:=by
  simp only [eB,Bool.and_eq_true] at h
  exact cM h.1.2
def aR (b:a9) (g:Int):az×Bool:=if 0<=g/\g<b.U.length then(el b.U g.toNat,true) else(⟨[],0,0,[],[],⟨0,0,false⟩,0,⟨0,0,false,0⟩,false,[]⟩,false)
def a7 (a:Int):Int:=if a<0 then-1 else Int.tdiv a 4
def dK (a:Int):Int:=if a<0 then-1 else Int.tmod a 4
theorem qS {a:Int} (h:aq a):aq (a7 a):=by
  unfold a7
  split
  · exact⟨by decide,by decide⟩
  · have h1:=h.1
    have ah:=h.2
    rw [Int.tdiv_eq_ediv_of_nonneg (by omega)]
    exact⟨by omega,by omega⟩
def c6 (t:List aA) (page need:Int):Int×Bool:=
  if(dw t page).page=-1\/eB (dw t page).bW need=false\/need=0 then(-1,false) else((dw t page).page,true)
def G6 (b:a9) (g:Int):Bool:=hK b&&aS g 0 ((b.U.length:Int)-1)
def q0 (b:a9) (g addr need:Int):Int×Bool:=
  if G6 b g=true/\aS addr 0 15=true then c6 (el b.U g.toNat).live (a7 addr) need else(-1,false)
def aok (b:a9) (g addr need:Int):Int×Int×Bool:=
  if G6 b g=true/\aS addr 0 15=true then((q0 b g addr need).1,dK addr,(q0 b g addr need).2) else(0,0,false)
def an5 (m:List (List Int)) (p c:Int):Bool:=decide ((0<=p/\p<m.length)/\0<=c/\c<(el m p.toNat).length)
def gm (m:List (List Int)) (p c v:Int):List (List Int):=
  if((0<=p/\p<m.length)/\0<=c/\c<(el m p.toNat).length)/\0<=v/\v<=99 then m.set p.toNat ((el m p.toNat).set c.toNat v) else m
def C4 (b:a9) (g addr v:Int):a9×Bool:=
  if(q0 b g addr 2).2=true/\aS v 0 99=true then(⟨gm b.mem (q0 b g addr 2).1 (dK addr) v,b.U,b.outs,b.av⟩,true) else(b,false)
theorem alA {x:Int} (h:aq x) (h0:0<=x):aq (x.tdiv 4):=by
  have h1:=h.1
  have ah:=h.2
  rw [Int.tdiv_eq_ediv_of_nonneg h0]
  exact⟨by omega,by omega⟩
theorem Dg {b:a9} {g:Int} (h:(aR b g).2=true):0<=g/\g<b.U.length:=by
  unfold aR at h
  split at h
  · assumption
  · cases h
theorem PR {b:a9} {g:Int} (h:(aR b g).2=false):¬(0<=g/\g<b.U.length):=by
  unfold aR at h
  split at h
  · cases h
  · assumption
theorem aca {b:a9} {g:Int} (h:0<=g/\g<b.U.length):(aR b g).1=el b.U g.toNat:=by
  unfold aR;rw [if_pos h]
theorem UR {α:Type} [GT α] {xs:List α} {k:Nat} (h:k<xs.length):xs.set k (el xs k)=xs:=by
  rw [hJ h];exact List.set_getElem_self h
theorem U5 {α:Type} {xs:List α} {k:Nat} {y:α} (h:k<xs.length):(xs.set k y).take (k+1)=xs.take k++[y]:=by
  rw [List.take_succ_eq_append_getElem (by rw [List.length_set];exact h),List.getElem_set_self,List.take_set_of_le (Nat.le_refl _)]
theorem Zn {m:aZ} {fT:List bO} {g:Nat} (aJ:m.tables.length<=g) (DN:fT.length=m.tables.length) (h:fT.take g=(m.tables.take g).map j1):({m with tables:=fT}:aZ)=C5 m:=by
  rw [fj (by omega),fj aJ] at h
  rw [h];rfl
end Go.Proofs.YtmeoackmjdoecaaGreat
namespace Go.Proofs.YtmeoackmjdoecaaGreat
open Go
set_option linter.unusedVariables false
variable {P:Program} {n:Nat} {w0:World} {M:aw} {u:World} {N:aw} {β:Nat->Nat} {σ:bw} {a:Act} {w:World} {ops:Array Oper} {Q:Exit->Act->World->Prop}
theorem aj.q (S:aj P n w0 M u N β σ a w) {i:Nat} (k:Nat) (keep:List Nat) (m:Nat) (σ':bw) {claims:List (Ask×Value)} (aI:fe P u N claims) (K:∀aD w' ck,aj P n w0 M u N ck σ' aD w'->jI P ops Q (i+k) aD w')
    (bB:mB P n ops i k σ (claims.map (·.2)) keep m=some (σ',claims):=by kernel_rfl):jI P ops Q i a w:=S.quiet aI bB K
theorem aj.c (S:aj P n w0 M u N β σ a w) {c:Operand} {x y:Code} (e:Bool) (bC:e=true->x.wp P Q a w) (bm:e=false->y.wp P Q a w) (he:σ.get c=some (.v (.bool e)):=by kernel_rfl):(Code.cond c x y).wp P Q a w:=S.cond he bC bm
theorem aj.r (S:aj P n w0 M u N β σ a w) {fn:Func} {bF:Ending->World->Prop} (dx:List Value) (h:bF (.returned (packed dx)) w) (bu:pK P σ fn.results.toList=some dx:=by kernel_rfl):bodyPost P fn bF .ret a w:=S.ret bu h
theorem aj.f (S:aj P n w0 M u N β σ a w) {fn:Func} {bF:Ending->World->Prop} (dx:List Value) (h:bF (.returned (packed dx)) w) (bu:pK P σ fn.results.toList=some dx:=by kernel_rfl):bodyPost P fn bF .normal a w:=S.Pn bu h
theorem aj.p (S:aj P n w0 M u N β σ a w) (keep:List Nat) (m:Nat) (σ':bw) (h:rH σ keep m=some σ':=by kernel_rfl):aj P n w0 M u N β σ' a w:=S.prune h
theorem aj.call3 {α:Type} [GT α] {cS:Act->World->Prop} (S:aj P n w0 M u N β σ a w) {i:Nat} {f:FuncId} {dX:List Value} {d:Tmp} {r:α} {r':Int} {r'':Bool} (hc:Calls P f dX.toArray w (qO aa w r r' r'')) (hcall:jr P n ops i σ=some (f,dX,d)) (hd:Nat.blt d n=true)
    (K:∀aD w' aH q F,aj P n w0 M w' aH β ⟨(d,.v (.tuple #[GT.val r q,R r',B r'']))::σ.env,σ.ay⟩ aD w'->(∀b,N b->aH b/\w'.heap[b]? =u.heap[b]?)->ai w0 M w' aH F r q->J N F->aq r'->cS aD w'):wpOp P ops Q i cS a w:=
  S.call hcall hc fun _ w' ⟨q,fX,LB,F,he,ez,bD,j9,aqa,bm⟩=>⟨_,he,K _ w' _ q F (S.after hd ez) (S.up ez)
    ⟨bD,fun b h=> .inr (bm b h),fun b h=> .inl (Nat.le_trans S.ed.size (bm b h).1)⟩ (J.fresh S w' fun b h=>bm b h) j9⟩
def Tc:List Nat->Nat->Bool
  |[],_=>false
  |s::r,t=>bif Nat.beq s t then true else Tc r t
def QH:Env->Nat->Bool
  |[],_=>false
  |(s,_)::r,t=>bif Nat.beq s t then true else QH r t
def qv:Env->List Nat->Env->List Nat
  |[],_,_=>[]
  |(t,_)::r,gk,new=>bif Tc gk t then qv r gk new else bif QH new t then qv r gk new else t::qv r gk new
def kJ:Env->List Nat
  |[]=>[]
  |(s,_)::r=>s::kJ r
def NT:List (List Value)->List (Nat×List Value)->List (List Value)
  |b,[]=>b
  |b,(k,c)::r=>NT (bif Nat.blt k b.length then b.set k c else b++[c]) r
def bw.dl (σ:bw) (gk:List Nat) (new:Env) (m:Nat) (cF:List (Nat×List Value)):bw:=⟨σ.keep m (qv σ.env gk new)++new,(NT σ.ay cF).take m⟩
theorem aj.jP (S:aj P n w0 M u N β σ a w) {i:Nat} (k:Nat) (gk:List Nat) (new:Env) {claims:List (Ask×Value)} (aI:fe P u N claims)
    (K:∀aD w' ck,aj P n w0 M u N ck (σ.dl gk new 1000 []) aD w'->Q .normal aD w')
    (bB:mB P n ops i k σ (claims.map (·.2)) (qv σ.env gk new++kJ new) 1000=some (σ.dl gk new 1000 [],claims):=by kernel_rfl) (hi:Nat.ble ops.size (i+k)=true:=by kernel_rfl):jI P ops Q i a w:=S.quiet aI bB fun aD w' ck bT=>jI.done hi (K aD w' ck bT)
theorem aj.z (S:aj P n w0 M u N β σ a w) {σ':bw} (h:rH σ (kJ σ'.env) σ'.ay.length=some σ':=by kernel_rfl):aj P n w0 M u N β σ' a w:=S.prune h
theorem KN {id:Nat} (h:Q .normal a w):Exit.inBlock id Q .normal a w:=h
theorem rd {i:Nat} (h:Q .normal a w) (hi:Nat.ble ops.size i=true:=by rfl):jI P ops Q i a w:=jI.done hi h
theorem wr (h:Q .ret a w):Code.ret.wp P Q a w:=wp_ret h
theorem u1 (h:Q .normal a w):Code.skip.wp P Q a w:=wp_skip h
abbrev kQ (x:Int):Int:=IntKind.i64.wrap (x+1)
section
variable {α:Type} [GT α] {xs:List α} {p:af α} {K:Nat}
theorem cA (h:GT.rd K N u xs p) (k:Nat) {l:Nat} {t e:TypeId} (bC:P.underlying t=some (.slice e)) (hl:l=xs.length:=by rfl) (hi:k<xs.length:=by omega) (he:jl P e=some (GT.width α):=by kernel_rfl):
    fw P u N (.idx t (ab l p.1) (R (k:Int))) (aM p.1.b (p.1.off+k*GT.width α)):=qN h hl rfl hi bC he
theorem cP (h:GT.rd K N u xs p) (i:Int) {l:Nat} {t e:TypeId} (bC:P.underlying t=some (.slice e)) (hl:l=xs.length:=by rfl) (hk:i=(i.toNat:Int):=by omega) (hi:i.toNat<xs.length:=by omega) (he:jl P e=some (GT.width α):=by kernel_rfl):
    fw P u N (.idx t (ab l p.1) (R i)) (aM p.1.b (p.1.off+i.toNat*GT.width α)):=qN h hl hk hi bC he
theorem cn (h:GT.rd K N u xs p) (t:TypeId) (k:Nat) (hi:k<xs.length:=by omega) (bR:GT.agg α=false:=by rfl) (bC:lP P t=some false:=by kernel_rfl):
    fw P u N (.load t (aM p.1.b (p.1.off+k*GT.width α))) (GT.val (el xs k) (p.2 k)):=e8 h hi bR bC
theorem dR (h:GT.rd K N u xs p) (t:TypeId) (k:Nat) (hi:k<xs.length:=by omega) (aJ:GT.agg α=true:=by rfl) (bR:lP P t=some true:=by kernel_rfl) (hs:jl P t=some (GT.width α):=by kernel_rfl):
    fw P u N (.load t (aM p.1.b (p.1.off+k*GT.width α))) (GT.val (el xs k) (p.2 k)):=hU h hi aJ bR hs
theorem dG (h:GT.rd K N u xs p) (t:TypeId) (k j:Nat) (v:Value) (hi:k<xs.length:=by omega) (bJ:(GT.cells (el xs k) (p.2 k))[j]? =some v:=by kernel_rfl) (bC:lP P t=some false:=by kernel_rfl):
    fw P u N (.load t (aM p.1.b (p.1.off+k*GT.width α+j))) v:=g7 h hi bJ bC
theorem cO (x y:Int) (h:aq (x+y):=by exact⟨by omega,by omega⟩):fw P u N (.int .add .i64 x y) (R (x+y)):=Nr h
theorem pI (x y:Int) (h:aq (x-y):=by exact⟨by omega,by omega⟩):fw P u N (.int .sub .i64 x y) (R (x-y)):=WH h
theorem aj.cH {cS:Act->World->Prop} (S:aj P n w0 M u N β σ a w) {i:Nat} {f:FuncId} {dX:List Value} (d:Tmp) {r:α} (hc:Calls P f dX.toArray w (dZ aa w r))
    (K:∀aD w' aH q F,aj P n w0 M w' aH β ⟨(d,.v (GT.val r q))::σ.env,σ.ay⟩ aD w'->(∀b,N b->aH b/\w'.heap[b]? =u.heap[b]?)->ai w0 M w' aH F r q->J N F->cS aD w')
    (hcall:jr P n ops i σ=some (f,dX,d):=by kernel_rfl) (hd:Nat.blt d n=true:=by rfl):wpOp P ops Q i cS a w:=S.Ow hc hcall hd K
end
abbrev br {α:Type} [GT α] (w0:World) (x:α) (p:GT.Ptr α):Prop:=GT.rd bz (ga w0.heap.size) w0 x p
theorem cL {p:Prop} (h:p:=by first|omega|(simp;done)|(simp;omega)):p:=h
theorem dn {p:Prop} (h:p:=by clear S;first|omega|(simp [*];done)|(simp [*];omega)):p:=h
end Go.Proofs.YtmeoackmjdoecaaGreat
namespace Go.Proofs.YtmeoackmjdoecaaGreat
open Go
def aB {α:Type} [GT α] (b:Nat) (p:GT.Ptr α):af α:=(⟨false,b,0,1,none⟩,fun _=>p)
def xN (k b:Nat):e9->e9
  | .p j o=>bif Nat.beq j k then .v (aM b o) else .p (bif Nat.blt k j then j-1 else j) o
  | .v x=> .v x
def tN (k b:Nat):Env->Env
  |[]=>[]
  |(t,s)::r=>(t,xN k b s)::tN k b r
theorem AR {k b t:Nat}:∀(e:Env),look (tN k b e) t=(look e t).map (xN k b)
  |
    []=>rfl
  |(s,x)::r=>by
    simp only [tN,pr]
    split
    · rfl
    · exact AR r
def bw.nO (σ:bw) (k b:Nat):bw:=⟨tN k b σ.env,σ.ay.eraseIdx k⟩
section
variable {P:Program} {n:Nat} {w0:World} {M:aw} {u:World} {N:aw} {β:Nat->Nat} {σ:bw} {a:Act} {w:World} {ops:Array Oper} {cS:Act->World->Prop} {Q:Exit->Act->World->Prop}
theorem aj.nO (S:aj P n w0 M u N β σ a w) {G:Prop} {α:Type} [GT α] (k:Nat) (x:α) (p:GT.Ptr α) (hx:GT.own bz aa w x p)
    (K:∀(ck:Nat->Nat) (aH:aw) (b:Nat) (F:aw),aj P n w0 M w aH ck (σ.nO k b) a w->(∀b,N b->aH b/\w.heap[b]? =u.heap[b]?)->ai w0 M w aH F [x] (aB b p)->J N F->G)
    (hk:σ.ay[k]? =some (GT.cells x p):=by kernel_rfl):G:=by
  have pf:k<σ.ay.length:=(List.getElem?_eq_some_iff.1 hk).1
  obtain⟨T,ov⟩:=S.box k _ hk
  have hb:β k<w.heap.size:=by
    rcases Nat.lt_or_ge (β k) w.heap.size with hl|hl
    · exact hl
    · rw [Array.getElem?_eq_none hl] at ov;cases ov
  have hlen:(σ.ay.eraseIdx k).length=σ.ay.length-1:=List.length_eraseIdx_of_lt pf
  have me:∀i,i<(σ.ay.eraseIdx k).length->(bif Nat.blt i k then i else i+1)<σ.ay.length/\(bif Nat.blt i k then i else i+1)≠k:=fun i hi=>by
    rw [hlen] at hi
    cases h:Nat.blt i k with
    |true=>have:=(Nat.le_of_ble_eq_true h:i+1<=k);exact⟨by simp only [cond_true];omega,by simp only [cond_true];omega⟩
    |false=>
      have:¬i<k:=fun ax=>by rw [show Nat.blt i k=true from Nat.ble_eq_true_of_le ax] at h;cases h
      exact⟨by simp only [cond_false];omega,by simp only [cond_false];omega⟩
  have Jy:=GT.len x p
  refine K (fun i=>β (bif Nat.blt i k then i else i+1)) (fun b=>N b\/b=β k) (β k) (fun b=>b=β k) ⟨S.mA,S.dh,fun t s bC=>?_,fun t i o bC=>?_,fun i cs hi=>?_,fun i j hi bJ h=>?_,fun i hi=>?_,fun b et=>?_,S.ed,fun b et hm=>?_⟩ (fun b et=>⟨.inl et,(S.sep b et).2.1⟩) ⟨?_,fun b h=> .inr h,fun b h=>?_⟩ (fun b h1 ah=>?_)
  · rw [show(σ.nO k (β k)).env=tN k (β k) σ.env from rfl,AR] at bC
    cases hs:look σ.env t with
    |none=>rw [hs] at bC;cases bC
    |some gw=>
      rw [hs] at bC
      simp only [Option.map_some,Option.some.injEq] at bC
      subst bC
      rw [S.env t gw hs]
      congr 1
      cases gw with
      |v x=>rfl
      |p j o=>
        simp only [xN]
        cases he:Nat.beq j k with
        |true=>rw [Nat.eq_of_beq_eq_true he];rfl
        |false=>
          have oz:j≠k:=fun e=>by rw [e,Nat.beq_refl] at he;cases he
          simp only [cond_false,e9.val]
          cases hl:Nat.blt k j with
          |true=>
            have h1:k<j:=Nat.le_of_ble_eq_true hl
            have ah:Nat.blt (j-1) k=false:=by
              cases aE:Nat.blt (j-1) k with
              |false=>rfl
              |true=>have:=(Nat.le_of_ble_eq_true aE:j-1+1<=k);omega
            simp only [cond_true,ah,cond_false]
            rw [show j-1+1=j by omega]
          |false=>
            have h1:¬k<j:=fun ax=>by rw [show Nat.blt k j=true from Nat.ble_eq_true_of_le ax] at hl;cases hl
            have ah:Nat.blt j k=true:=Nat.ble_eq_true_of_le (by omega:j+1<=k)
            simp only [cond_false,ah,cond_true]
  · rw [show(σ.nO k (β k)).env=tN k (β k) σ.env from rfl,AR] at bC
    show i<(σ.ay.eraseIdx k).length
    cases hs:look σ.env t with
    |none=>rw [hs] at bC;cases bC
    |some gw=>
      rw [hs] at bC
      simp only [Option.map_some,Option.some.injEq] at bC
      cases gw with
      |v x=>cases bC
      |p j ik=>
        have bJ:=S.ok t j ik hs
        simp only [xN] at bC
        cases he:Nat.beq j k with
        |true=>rw [he] at bC;cases bC
        |false=>
          have oz:j≠k:=fun e=>by rw [e,Nat.beq_refl] at he;cases he
          rw [he] at bC
          simp only [cond_false,e9.p.injEq] at bC
          rw [hlen,←bC.1]
          cases hl:Nat.blt k j with
          |true=>simp only [cond_true];have:=(Nat.le_of_ble_eq_true hl:k+1<=j);omega
          |false=>
            have h1:¬k<j:=fun ax=>by rw [show Nat.blt k j=true from Nat.ble_eq_true_of_le ax] at hl;cases hl
            simp only [cond_false];omega
  · have h9:(σ.ay.eraseIdx k)[i]? =some cs:=hi
    rw [List.getElem?_eraseIdx] at h9
    cases h:Nat.blt i k with
    |true=>
      rw [if_pos (show i<k from Nat.le_of_ble_eq_true h)] at h9
      obtain⟨od,h'⟩:=S.box i cs h9
      exact⟨od,by simpa only [h,cond_true] using h'⟩
    |false=>
      have:¬i<k:=fun ax=>by rw [show Nat.blt i k=true from Nat.ble_eq_true_of_le ax] at h;cases h
      rw [if_neg this] at h9
      obtain⟨od,h'⟩:=S.box (i+1) cs h9
      exact⟨od,by simpa only [h,cond_false] using h'⟩
  · have e:=S.inj _ _ (me i hi).1 (me j bJ).1 h
    have e4:=(me i hi).2
    have dO:=(me j bJ).2
    revert e e4 dO
    cases h1:Nat.blt i k<;>cases ah:Nat.blt j k<;>simp only [cond_true,cond_false]<;>intro e e4 dO
    · omega
    · have:=(Nat.le_of_ble_eq_true ah:j+1<=k)
      have:¬i<k:=fun ax=>by rw [show Nat.blt i k=true from Nat.ble_eq_true_of_le ax] at h1;cases h1
      omega
    · have:=(Nat.le_of_ble_eq_true h1:i+1<=k)
      have:¬j<k:=fun ax=>by rw [show Nat.blt j k=true from Nat.ble_eq_true_of_le ax] at ah;cases ah
      omega
    · exact e
  · exact S.new _ (me i hi).1
  · rcases et with h|h
    · exact⟨(S.sep b h).1,rfl,fun i hi=>(S.sep b h).2.2 _ (me i hi).1⟩
    · subst h
      exact⟨hb,rfl,fun i hi e=>(me i hi).2 (S.inj _ _ (me i hi).1 pf e)⟩
  · have h:=S.kM b et hm
    exact⟨.inl h.1,(S.sep b h.1).2.1.trans h.2⟩
  · show jU bz _ w [x] (aB (β k) p)
    refine⟨by simp [bz],Nat.le_refl _,by simp [aB],fun h=>(by cases h),fun _=>⟨rfl,_,T,ov,by simp [aB,Jy]⟩,fun i hi=>?_,⟨fun _=>aa,fun i hi=>?_,fun _ _ _ h=>False.elim h,fun i j hi bJ qg=>by simp at hi bJ;omega⟩⟩
    · have e:i=0:=by simp at hi;exact hi
      subst e
      intro j v bJ
      have hc:w.cell? ⟨β k,0+0*GT.width α+j,none⟩=some v:=by
        unfold World.cell?
        rw [ov]
        have As:(GT.cells x p)[j]? =some v:=bJ
        simp [As]
      exact hc
    · have e:i=0:=by simp at hi;exact hi
      subst e
      exact hx
  · subst h;exact S.new k pf
  · subst ah;exact(S.sep _ h1).2.2 k pf rfl
theorem aj.abg (S:aj P n w0 M u N β σ a w) {G:Prop} {α:Type} [GT α] (k:Nat) {x:α} {p:GT.Ptr α} {u9:aw} (hx:ai w0 M u N u9 x p)
    (K:∀(ck:Nat->Nat) (aH:aw) (b:Nat) (F:aw),aj P n w0 M w aH ck (σ.nO k b) a w->(∀b,N b->aH b/\w.heap[b]? =u.heap[b]?)->ai w0 M w aH F [x] (aB b p)->(∀H:aw,J H u9->(∀b,H b->N b)->J H F)->G)
    (hk:σ.ay[k]? =some (GT.cells x p):=by kernel_rfl):G:=by
  have pf:k<σ.ay.length:=(List.getElem?_eq_some_iff.1 hk).1
  obtain⟨T,ov⟩:=S.box k _ hk
  have hb:β k<w.heap.size:=by
    rcases Nat.lt_or_ge (β k) w.heap.size with hl|hl
    · exact hl
    · rw [Array.getElem?_eq_none hl] at ov;cases ov
  have hlen:(σ.ay.eraseIdx k).length=σ.ay.length-1:=List.length_eraseIdx_of_lt pf
  have me:∀i,i<(σ.ay.eraseIdx k).length->(bif Nat.blt i k then i else i+1)<σ.ay.length/\(bif Nat.blt i k then i else i+1)≠k:=fun i hi=>by
    rw [hlen] at hi
    cases h:Nat.blt i k with
    |true=>have:=(Nat.le_of_ble_eq_true h:i+1<=k);exact⟨by simp only [cond_true];omega,by simp only [cond_true];omega⟩
    |false=>
      have:¬i<k:=fun ax=>by rw [show Nat.blt i k=true from Nat.ble_eq_true_of_le ax] at h;cases h
      exact⟨by simp only [cond_false];omega,by simp only [cond_false];omega⟩
  have Jy:=GT.len x p
  refine K (fun i=>β (bif Nat.blt i k then i else i+1)) (fun b=>N b\/b=β k) (β k) (fun b=>b=β k\/u9 b) ⟨S.mA,S.dh,fun t s bC=>?_,fun t i o bC=>?_,fun i cs hi=>?_,fun i j hi bJ h=>?_,fun i hi=>?_,fun b et=>?_,S.ed,fun b et hm=>?_⟩ (fun b et=>⟨.inl et,(S.sep b et).2.1⟩) ⟨?_,fun b h=>h.elim .inr (fun h=> .inl (hx.sub b h)),fun b h=>?_⟩ (fun H cW bM b h1 ah=>?_)
  · rw [show(σ.nO k (β k)).env=tN k (β k) σ.env from rfl,AR] at bC
    cases hs:look σ.env t with
    |none=>rw [hs] at bC;cases bC
    |some gw=>
      rw [hs] at bC
      simp only [Option.map_some,Option.some.injEq] at bC
      subst bC
      rw [S.env t gw hs]
      congr 1
      cases gw with
      |v x=>rfl
      |p j o=>
        simp only [xN]
        cases he:Nat.beq j k with
        |true=>rw [Nat.eq_of_beq_eq_true he];rfl
        |false=>
          have oz:j≠k:=fun e=>by rw [e,Nat.beq_refl] at he;cases he
          simp only [cond_false,e9.val]
          cases hl:Nat.blt k j with
          |true=>
            have h1:k<j:=Nat.le_of_ble_eq_true hl
            have ah:Nat.blt (j-1) k=false:=by
              cases aE:Nat.blt (j-1) k with
              |false=>rfl
              |true=>have:=(Nat.le_of_ble_eq_true aE:j-1+1<=k);omega
            simp only [cond_true,ah,cond_false]
            rw [show j-1+1=j by omega]
          |false=>
            have h1:¬k<j:=fun ax=>by rw [show Nat.blt k j=true from Nat.ble_eq_true_of_le ax] at hl;cases hl
            have ah:Nat.blt j k=true:=Nat.ble_eq_true_of_le (by omega:j+1<=k)
            simp only [cond_false,ah,cond_true]
  · rw [show(σ.nO k (β k)).env=tN k (β k) σ.env from rfl,AR] at bC
    show i<(σ.ay.eraseIdx k).length
    cases hs:look σ.env t with
    |none=>rw [hs] at bC;cases bC
    |some gw=>
      rw [hs] at bC
      simp only [Option.map_some,Option.some.injEq] at bC
      cases gw with
      |v x=>cases bC
      |p j ik=>
        have bJ:=S.ok t j ik hs
        simp only [xN] at bC
        cases he:Nat.beq j k with
        |true=>rw [he] at bC;cases bC
        |false=>
          have oz:j≠k:=fun e=>by rw [e,Nat.beq_refl] at he;cases he
          rw [he] at bC
          simp only [cond_false,e9.p.injEq] at bC
          rw [hlen,←bC.1]
          cases hl:Nat.blt k j with
          |true=>simp only [cond_true];have:=(Nat.le_of_ble_eq_true hl:k+1<=j);omega
          |false=>
            have h1:¬k<j:=fun ax=>by rw [show Nat.blt k j=true from Nat.ble_eq_true_of_le ax] at hl;cases hl
            simp only [cond_false];omega
  · have h9:(σ.ay.eraseIdx k)[i]? =some cs:=hi
    rw [List.getElem?_eraseIdx] at h9
    cases h:Nat.blt i k with
    |true=>
      rw [if_pos (show i<k from Nat.le_of_ble_eq_true h)] at h9
      obtain⟨od,h'⟩:=S.box i cs h9
      exact⟨od,by simpa only [h,cond_true] using h'⟩
    |false=>
      have:¬i<k:=fun ax=>by rw [show Nat.blt i k=true from Nat.ble_eq_true_of_le ax] at h;cases h
      rw [if_neg this] at h9
      obtain⟨od,h'⟩:=S.box (i+1) cs h9
      exact⟨od,by simpa only [h,cond_false] using h'⟩
  · have e:=S.inj _ _ (me i hi).1 (me j bJ).1 h
    have e4:=(me i hi).2
    have dO:=(me j bJ).2
    revert e e4 dO
    cases h1:Nat.blt i k<;>cases ah:Nat.blt j k<;>simp only [cond_true,cond_false]<;>intro e e4 dO
    · omega
    · have:=(Nat.le_of_ble_eq_true ah:j+1<=k)
      have:¬i<k:=fun ax=>by rw [show Nat.blt i k=true from Nat.ble_eq_true_of_le ax] at h1;cases h1
      omega
    · have:=(Nat.le_of_ble_eq_true h1:i+1<=k)
      have:¬j<k:=fun ax=>by rw [show Nat.blt j k=true from Nat.ble_eq_true_of_le ax] at ah;cases ah
      omega
    · exact e
  · exact S.new _ (me i hi).1
  · rcases et with h|h
    · exact⟨(S.sep b h).1,rfl,fun i hi=>(S.sep b h).2.2 _ (me i hi).1⟩
    · subst h
      exact⟨hb,rfl,fun i hi e=>(me i hi).2 (S.inj _ _ (me i hi).1 pf e)⟩
  · have h:=S.kM b et hm
    exact⟨.inl h.1,(S.sep b h.1).2.1.trans h.2⟩
  · show jU bz _ w [x] (aB (β k) p)
    refine⟨by simp [bz],Nat.le_refl _,by simp [aB],fun h=>(by cases h),fun _=>⟨.inl rfl,_,T,ov,by simp [aB,Jy]⟩,fun i hi=>?_,⟨fun _=>u9,fun i hi=>?_,fun _ _ b h=>⟨.inr h,fun e=>(S.sep b (hx.sub b h)).2.2 k pf e.symm⟩,fun i j hi bJ qg=>by simp at hi bJ;omega⟩⟩
    · have e:i=0:=by simp at hi;exact hi
      subst e
      intro j v bJ
      have hc:w.cell? ⟨β k,0+0*GT.width α+j,none⟩=some v:=by
        unfold World.cell?
        rw [ov]
        have As:(GT.cells x p)[j]? =some v:=bJ
        simp [As]
      exact hc
    · have e:i=0:=by simp at hi;exact hi
      subst e
      exact S.hP hx
  · rcases h with h|h
    · subst h;exact S.new k pf
    · exact hx.cU b h
  · rcases ah with ah|ah
    · subst ah;exact(S.sep _ (bM _ h1)).2.2 k pf rfl
    · exact cW b h1 ah
theorem aj.tj {α:Type} [GT α] {K:Nat} {G:aw} {x:α} {p:GT.Ptr α} (S:aj P n w0 M u N β σ a w) (h:GT.rd K G w0 x p) (cu:∀b,G b->b<w0.heap.size/\¬M b):GT.rd K N u x p:=
  GT.eh (GT.fJ h (fun b hb _=>(S.kM b (cu b hb).1 (cu b hb).2).2)) (Nat.le_refl _) (fun b hb=>(S.kM b (cu b hb).1 (cu b hb).2).1)
theorem ai.u1 {M':aw} {α:Type} [GT α] {F:aw} {x:α} {p:GT.Ptr α} (h:ai w0 aa u N F x p):ai w0 M' u N F x p:=
  ⟨h.own,h.sub,fun b hb=> .inl ((h.cU b hb).resolve_right id)⟩
def rV {α:Type} [GT α] (jV F:aw) (w:World) (r:α) (e:Ending) (w':World):Prop:=
  ∃q b1,e= .returned (GT.val r q)/\bX jV w w'/\GT.own bz b1 w' r q/\∀b,b1 b->F b\/(w.heap.size<=b/\b<w'.heap.size)
theorem aj.Zh {α gi:Type} [GT α] [GT gi] {F:aw} {x:α} {p:GT.Ptr α} (S:aj P n w0 M u N β σ a w) (o:ai w0 M u N F x p) {i:Nat} {f:FuncId} {dX:List Value} {d:Tmp} {r:gi} (hc:Calls P f dX.toArray w (rV aa F w r))
    (K:∀aD w' aH q b1,aj P n w0 M w' aH β ⟨(d,.v (GT.val r q))::σ.env,σ.ay⟩ aD w'->(∀b,N b->aH b/\w'.heap[b]? =u.heap[b]?)->ai w0 M w' aH b1 r q->(∀G:aw,J G F->(∀b,G b->N b)->J G b1)->cS aD w')
    (hcall:jr P n ops i σ=some (f,dX,d):=by kernel_rfl) (hd:Nat.blt d n=true:=by kernel_rfl):wpOp P ops Q i cS a w:=
  S.call hcall hc fun _ w' ⟨q,b1,he,ez,bD,bm⟩=>⟨_,he,K _ w' _ q b1 (S.after hd ez) (S.up ez)
    ⟨bD,fun b h=>(bm b h).elim (fun h=> .inl (o.sub b h)) .inr,fun b h=>(bm b h).elim (o.cU b) (fun h=> .inl (Nat.le_trans S.ed.size h.1))⟩
    (fun G cW bM b h1 ah=>(bm b ah).elim (cW b h1) (fun h=>by have:=(S.sep b (bM b h1)).1;omega))⟩
theorem uV {α:Type} [GT α] {F b1:aw} {r x:α} {p:GT.Ptr α} {v:Value} (S:aj P n w0 M u N β σ a w) (h:r=x) (bu:v=GT.val x p) (o:ai w0 F u N b1 x p):rV M F w0 r (.returned (packed [v])) w:=by
  subst h bu
  exact⟨p,b1,rfl,S.ed,GT.c7 o.own (fun b hb _=>(S.sep b (o.sub b hb)).2.1),fun b hb=>(o.cU b hb).elim (fun h=> .inr ⟨h,(S.sep b (o.sub b hb)).1⟩) .inl⟩
theorem aj.aiF {α:Type} [GT α] {x:α} {p:GT.Ptr α} (S:aj P n w0 aa u N β σ a w) (h:GT.rd bz (ga w0.heap.size) w0 x p):GT.rd bz (fun b=>b<w0.heap.size) w x p:=
  GT.fJ h (fun b hb _=>S.ed.block b hb id)
def ze {α gi ki:Type} [GT α] [GT gi] [GT ki] (F:aw) (cA:af ki) (w:World) (r:α) (r':gi) (n':ki) (e:Ending) (w':World):Prop:=
  ∃(q:GT.Ptr α) (fX:GT.Ptr gi) (F1 aX:aw) (cp:Nat->GT.Ptr ki),e= .returned (.tuple #[GT.val r q,GT.val r' fX])/\bX F w w'/\GT.own bz F1 w' r q/\GT.own bz aX w' r' fX/\(∀b,F1 b->w.heap.size<=b/\b<w'.heap.size)/\GT.own bz F w' [n'] ((cA.1,cp):af ki)
theorem aj.Za {α gi ki:Type} [GT α] [GT gi] [GT ki] {F:aw} {KH:ki} {cA:af ki} (S:aj P n w0 M u N β σ a w) (o:ai w0 M u N F [KH] cA) {i:Nat} {f:FuncId} {dX:List Value} {d:Tmp} {r:α} {r':gi} {n':ki} (hc:Calls P f dX.toArray w (ze F cA w r r' n'))
    (K:∀aD w' aH q fX F1 cp,aj P n w0 M w' aH β ⟨(d,.v (.tuple #[GT.val r q,GT.val r' fX]))::σ.env,σ.ay⟩ aD w'->(∀b,N b->¬F b->aH b/\w'.heap[b]? =u.heap[b]?)->ai w0 M w' aH F1 r q->ai w0 M w' aH F [n'] ((cA.1,cp):af ki)->J N F1->cS aD w')
    (hcall:jr P n ops i σ=some (f,dX,d):=by kernel_rfl) (hd:Nat.blt d n=true:=by kernel_rfl):wpOp P ops Q i cS a w:=
  S.call hcall hc fun _ w' ⟨q,fX,F1,aX,cp,he,ez,bD,j9,bm,bc⟩=>⟨_,he,K _ w' _ q fX F1 cp ((S.qT ez o.sub o.cU).put (wb hd) (fun _ _ e=>by cases e)) (S.bp ez)
    ⟨bD,fun b h=> .inr (bm b h),fun b h=> .inl (Nat.le_trans S.ed.size (bm b h).1)⟩ ⟨bc,fun b h=> .inl (o.sub b h),o.cU⟩ (J.fresh S w' fun b h=>bm b h)⟩
theorem Bp {α gi ki:Type} [GT α] [GT gi] [GT ki] {F F1:aw} {r x:α} {r' gI:gi} {p:GT.Ptr α} {p':GT.Ptr gi} {n' y:ki} {cA:af ki} {cp:Nat->GT.Ptr ki} {v lr:Value} (S:aj P n w0 F u N β σ a w) (h:r=x) (h':r'=gI) (bc:n'=y) (bu:v=GT.val x p) (sz:lr=GT.val gI p')
    (o:ai w0 F u N F1 x p) (ik:GT.own bz aa w gI p') (aF:ai w0 F u N F [y] ((cA.1,cp):af ki)) (hd:J F1 F):ze F cA w0 r r' n' (.returned (packed [v,lr])) w:=by
  subst h h' bc bu sz
  have qU:∀b,N b->w.heap[b]? =u.heap[b]? :=fun b hb=>(S.sep b hb).2.1
  exact⟨p,p',F1,aa,cp,rfl,S.ed,GT.c7 o.own (fun b hb _=>qU b (o.sub b hb)),ik,fun b hb=>⟨(o.cU b hb).resolve_right (fun h=>hd b hb h),(S.sep b (o.sub b hb)).1⟩,GT.c7 aF.own (fun b hb _=>qU b (aF.sub b hb))⟩
def tf {α:Type} [GT α] (bF:GT.Ptr α->GT.Ptr α->Prop) (F:aw) (cA:af α) (w:World) (v:Value) (h':α) (e:Ending) (w':World):Prop:=
  ∃(cp:Nat->GT.Ptr α) (b1:aw),e= .returned v/\bX F w w'/\GT.own bz b1 w' [h'] ((cA.1,cp):af α)/\(∀b,b1 b->F b\/(w.heap.size<=b/\b<w'.heap.size))/\bF (cA.2 0) (cp 0)
def Ox (n:Nat) (ops:Array Oper) (i:Nat) (σ:bw):Option (FuncId×List Value×Tmp):=
  match ops.toList[i]? with
  |some o=>
    match nh ops σ o,o.op,o.dst with
    |some true,.call ⟨.value (.tmp t),args,_⟩,some d=>
      match σ.get (.tmp t) with
      |some (.v (.func (.func f) first pV))=>bif Nat.blt d n then(lQ σ args.toList).map fun l=>(f,first.toList++l++pV.toList,d) else none
      |_=>none
    |_,_,_=>none
  |none=>none
theorem NG {n:Nat} {ops:Array Oper} {i:Nat} {σ:bw} {f:FuncId} {r:List Value×Tmp} (bm:callee P f=true) (h:Ox n ops i σ=some (f,r):=by kernel_rfl):jr P n ops i σ=some (f,r):=by
  unfold Ox at h
  unfold jr
  split at h
  · rename_i o bD
    rw [bD]
    split at h
    · rename_i t args x d h1 ah aE
      simp only [h1,ah,aE]
      split at h
      · rename_i g first pV aJ
        simp only [aJ]
        cases hb:Nat.blt d n
        · rw [hb] at h;cases h
        · rw [hb] at h
          simp only [cond_true] at h
          have e:g=f:=by
            cases bu:lQ σ args.toList
            · rw [bu] at h;cases h
            · rw [bu] at h;simp only [Option.map_some,Option.some.injEq,Prod.mk.injEq] at h;exact h.1
          subst e
          simp only [bm,Bool.and_self,cond_true]
          exact h
      · cases h
    · cases h
  · cases h
def anG (P:Program) (ops:Array Oper) (i:Nat) (σ:bw):Option (FuncId×List Value):=
  match ops.toList[i]? with
  |some o=>
    match nh ops σ o,o.op,o.dst with
    |some true,.call ⟨.value (.func f),args,_⟩,none=>bif callee P f then(lQ σ args.toList).map fun l=>(f,l) else none
    |_,_,_=>none
  |none=>none
theorem aj.Zb {α:Type} [GT α] {bF:GT.Ptr α->GT.Ptr α->Prop} {F:aw} {x:α} {cA:af α} (S:aj P n w0 M u N β σ a w) (o:ai w0 M u N F [x] cA) {i:Nat} {f:FuncId} {dX:List Value} {d:Tmp} {v:Value} {gI:α} (hc:Calls P f dX.toArray w (tf bF F cA w v gI))
    (K:∀dO w' aH cp b1,aj P n w0 M w' aH β ⟨(d,.v v)::σ.env,σ.ay⟩ dO w'->(∀b,N b->¬F b->aH b/\w'.heap[b]? =u.heap[b]?)->ai w0 M w' aH b1 [gI] ((cA.1,cp):af α)->(∀G:aw,J G F->(∀b,G b->N b)->J G b1)->bF (cA.2 0) (cp 0)->cS dO w')
    (hcall:jr P n ops i σ=some (f,dX,d):=by kernel_rfl) (hd:Nat.blt d n=true:=by kernel_rfl):wpOp P ops Q i cS a w:=
  S.call hcall hc fun _ w' ⟨cp,b1,he,ez,bD,bm,vM⟩=>⟨_,he,K _ w' _ cp b1 ((S.qT ez o.sub o.cU).put (wb hd) (fun _ _ e=>by cases e)) (S.bp ez)
    ⟨bD,fun b h=>(bm b h).elim (fun h=> .inl (o.sub b h)) .inr,fun b h=>(bm b h).elim (o.cU b) (fun h=> .inl (Nat.le_trans S.ed.size h.1))⟩
    (fun G cW bM b h1 ah=>(bm b ah).elim (cW b h1) (fun h=>by have:=(S.sep b (bM b h1)).1;omega)) vM⟩
theorem uU {α:Type} [GT α] {bF:GT.Ptr α->GT.Ptr α->Prop} {F b1:aw} {h' x:α} {cA:af α} {cp:Nat->GT.Ptr α} {v:Value} (S:aj P n w0 F u N β σ a w) (h:h'=x) (vM:bF (cA.2 0) (cp 0)) (o:ai w0 F u N b1 [x] ((cA.1,cp):af α)):tf bF F cA w0 v h' (.returned v) w:=by
  subst h
  exact⟨cp,b1,rfl,S.ed,GT.c7 o.own (fun b hb _=>(S.sep b (o.sub b hb)).2.1),fun b hb=>(o.cU b hb).elim (fun h=> .inr ⟨h,(S.sep b (o.sub b hb)).1⟩) .inl,vM⟩
end
end Go.Proofs.YtmeoackmjdoecaaGreat
namespace Go.Proofs.YtmeoackmjdoecaaGreat
open Go
set_option linter.unusedVariables false
section
variable {P:Program} {ops:Array Oper} {bF:Act->World->Prop} {C:World->Prop} {st:Nat}
theorem ao.aa9 {i:Nat} {ny:Oper} {v:Value} (hi:ops[i]? =some ny) (AG:Region.noSelect ops=true) (vV:i≠st):
    ∀
      (f:Nat) (b0:Array Bool) (a:Act) (w:World),
      (∀j nz,ops[j]? =some nz->j≠i->b0.getD j true=false->(∀e∈nz.after,Region.binds .any e=true->e.on≠i)->ny.apart ops nz=true)->
      i∈Region.ready .any ops b0->YieldsIf P ops (fun _=>True) ny v a->(b0.getD st false=false->C w)->
      ao P ops bF st C f (b0.setIfInBounds i true) (a.put ny.dst v) w->ao P ops bF st C (f+1) b0 a w:=by
  intro f
  have Jg:∀c a w,mx bF (.panic c) (a.put ny.dst v) w->mx bF (.panic c) a w:=fun _ _ _ h=>(by cases h.1)
  have BU:∀(b0:Array Bool),i∈Region.ready .any ops b0->b0.getD i false=false:=fun b0 bo=>by
    have h0:=(mem_ready.1 bo).1
    rcases Nat.lt_or_ge i b0.size with h'|h'
    · simp [h'] at h0 ⊢;exact h0
    · simp [Array.getElem?_eq_none h']
  induction f with
  |zero=>
    intro b0 a w _ bo hy bx H
    refine⟨fun h=>(by rw [h] at bo;cases bo),fun j bJ=>?_⟩
    by_cases lG:j=i
    · subst lG;exact hy.wpOp hi trivial ⟨fun h=>bx (by rwa [getD_set_ne false vV] at h),H⟩
    · have:=ready_mono bJ lG
      rw [H.1] at this
      cases this
  |succ f gQ=>
    intro b0 a w Aq bo hy bx H
    refine⟨fun h=>(by rw [h] at bo;cases bo),fun j bJ=>?_⟩
    by_cases lG:j=i
    · subst lG;exact hy.wpOp hi trivial ⟨fun h=>bx (by rwa [getD_set_ne false vV] at h),H⟩
    have h1:=H.2 j (ready_mono bJ lG)
    obtain⟨At,nz,vX,mb⟩:=mem_ready.1 bJ
    have Jf:∀e∈nz.after,Region.binds .any e=true->e.on≠i:=fun e he hb heq=>by
      have ah:=mb e he hb
      rw [heq,BU b0 bo] at ah
      cases ah
    have ah:=wpOp_putIf vX (Aq j nz vX lG At Jf) (fun cs b=>Region.noSelect_spec AG i ny cs b hi) (fun cs b=>Region.noSelect_spec AG j nz cs b vX) Jg hy h1
    have I1:∀k ok,ops[k]? =some ok->k≠i->(b0.setIfInBounds j true).getD k true=false->(∀e∈ok.after,Region.binds .any e=true->e.on≠i)->ny.apart ops ok=true:=fun k ok hk I6 hu Je=>by
      refine Aq k ok hk I6 ?_ Je
      by_cases oz:j=k
      · subst oz;exact At
      · rwa [getD_set_ne true oz] at hu
    refine wpOp_mono (fun aD w' aE=>?_) ah
    obtain⟨b2,cf,dU⟩:=aE
    have Ac:(b0.setIfInBounds j true).getD st false=false->C w':=fun h=>cf (by
      rw [Array.setIfInBounds_comm _ _ (Ne.symm lG),getD_set_ne false vV];exact h)
    rw [Array.setIfInBounds_comm _ _ (Ne.symm lG)] at dU
    exact⟨Ac,gQ (b0.setIfInBounds j true) aD w' I1 (ready_mono bo (Ne.symm lG)) b2 Ac dU⟩
end
section
variable {P:Program} {n:Nat} {w0:World} {M:aw} {u:World} {N:aw} {β:Nat->Nat} {σ σ':bw} {a:Act} {w:World} {ops:Array Oper} {bF:Act->World->Prop} {C:World->Prop} {st:Nat}
def yG (β:Nat->Nat):Env->Env
  |[]=>[]
  |(t,s)::r=>(t,.v (s.val β))::yG β r
def bw.pl (σ:bw) (β:Nat->Nat):bw:=⟨yG β σ.env,[]⟩
theorem Ks {t:Nat}:∀(e:Env),look (yG β e) t=(look e t).map fun s=> .v (s.val β)
  |
    []=>rfl
  |(s,x)::r=>by
    simp only [yG,pr]
    split
    · rfl
    · exact Ks r
theorem aj.WU (S:aj P n w0 M u N β σ a w) (w':World):aj P n w' (fun _=>True) w' aa β (σ.pl β) a w':=by
  refine⟨S.mA,S.dh,fun t s bC=>?_,fun t k o bC=>?_,fun k cs hk=>by simp [bw.pl] at hk,fun _ _ bJ=>by simp [bw.pl] at bJ,fun _ hk=>by simp [bw.pl] at hk,fun b hb=>False.elim hb,bX.refl _ _,fun b _ hm=>absurd trivial hm⟩
  · rw [show(σ.pl β).env=yG β σ.env from rfl,Ks] at bC
    cases hs:look σ.env t with
    |none=>rw [hs] at bC;cases bC
    |some gw=>
      rw [hs] at bC
      simp only [Option.map_some,Option.some.injEq] at bC
      subst bC
      exact S.env t gw hs
  · rw [show(σ.pl β).env=yG β σ.env from rfl,Ks] at bC
    cases hs:look σ.env t with
    |none=>rw [hs] at bC;cases bC
    |some gw=>rw [hs] at bC;simp at bC
def EI (P:Program) (ops:Array Oper) (β:Nat->Nat) (σ:bw) (i:Nat):Bool:=
  match ops[i]? with
  |some o=>
    match nh ops σ o with
    |some false=>true
    |some true=>match uJ P (σ.pl β) o,uJ P σ o with
      |some (.val _),some (.val _)=>true
      |_,_=>false
    |none=>false
  |none=>false
def Bh (ops:Array Oper) (st:Nat) (b0:Array Bool) (i:Nat):Bool:=
  Region.noSelect ops&&Region.free .any ops b0 i&&(Region.ready .any ops b0).contains i&& !Nat.beq i st
theorem aj.aeS (S:aj P n w0 M u N β σ a w) {i f:Nat} {b0:Array Bool} (ax:Bh ops st b0 i=true) (a2:EI P ops β σ i=true) (bx:b0.getD st false=false->C w) (bB:g9 P n ops ((ops.toList.drop i).take 1) σ []=some (σ',[]))
    (K:∀aD,aj P n w0 M u N β σ' aD w->ao P ops bF st C f (b0.setIfInBounds i true) aD w):ao P ops bF st C (f+1) b0 a w:=by
  unfold EI at a2
  split at a2
  · rename_i o bD
    have fs:i<ops.size:=(Array.getElem?_eq_some_iff.1 bD).1
    have hl:(ops.toList.drop i).take 1=[o]:=by
      rw [List.drop_eq_getElem_cons (show i<ops.toList.length by simpa using fs)]
      have:=(Array.getElem?_eq_some_iff.1 bD).2
      simp [←this]
    rw [hl] at bB
    simp only [Bh,Bool.and_eq_true,Bool.not_eq_true'] at ax
    obtain⟨⟨⟨bd,fl⟩,jX⟩,o2⟩:=ax
    have vV:i≠st:=fun e=>by rw [e,Nat.beq_refl] at o2;cases o2
    have fin:∀v,YieldsIf P ops (fun _=>True) o v a->aj P n w0 M u N β σ' (a.put o.dst v) w->ao P ops bF st C (f+1) b0 a w:=fun v hy jn=>
      ao.aa9 bD bd vV f b0 a w (Region.free_spec bD fl) (by simpa using jX) hy bx (K _ jn)
    simp only [g9] at bB
    split at bB
    · cases bB
    · rename_i aJ
      cases iE:σ.put n o.dst (.v undef) with
      |none=>rw [iE] at bB;cases bB
      |some Fp=>
        rw [iE] at bB
        simp only [Option.bind_some,Option.some.injEq,Prod.mk.injEq,and_true] at bB
        subst bB
        exact fin undef (.inr ⟨ma S aJ,rfl⟩) (S.put iE (fun _ _ e=>by cases e))
    · rename_i aJ
      simp only [aJ] at a2
      have hw:=ma S aJ
      split at a2
      · rename_i lU kR v8 yi
        have oC:∀w',(execOp a.eval o).run P w'= .ok (.value (lU.val β)) w':=fun w'=>(mj (S.WU w') v8).1
        split at bB
        · cases bB
        · rename_i x hx
          cases iE:σ.put n o.dst x with
          |none=>rw [iE] at bB;cases bB
          |some Fp=>
            rw [iE] at bB
            simp only [Option.bind_some,Option.some.injEq,Prod.mk.injEq,and_true] at bB
            subst bB
            have h1:=(mj S hx).1
            rw [oC w] at h1
            have e:lU.val β=x.val β:=by
              injection h1 with h1 _
              injection h1
            exact fin (x.val β) (.inl ⟨hw,fun w' _=>e▸oC w'⟩) (S.put iE (mj S hx).2)
        · rename_i h0;rw [h0] at yi;cases yi
        · rename_i h0;rw [h0] at yi;cases yi
        · rename_i h0;rw [h0] at yi;cases yi
      · cases a2
  · cases a2
def bw.xA (σ:bw) (gk:List Nat) (new:Env):bw:=⟨σ.keep 1000 (qv σ.env gk new)++new,σ.ay⟩
theorem aj.aI {ay:List (List Value)} (S:aj P n w0 M u N β σ a w) {f:Nat} {b0:Array Bool} (i:Nat) (path:List Nat) (gk:List Nat) (new:Env) {claims:List (Ask×Value)} (aI:fe P u N claims)
    (K:∀aD,aj P n w0 M u N β (σ.xA gk new) aD w->ao P ops bF st (eK w0 M u N β ay) f (b0.setIfInBounds i true) aD w)
    (jf:σ.ay=ay:=by kernel_rfl) (ax:AD ops st b0 i path=true:=by kernel_rfl) (qd:zk P ops σ i=true:=by kernel_rfl)
    (bB:mB P n ops i 1 σ (claims.map (·.2)) (qv σ.env gk new++kJ new) 1000=some (σ.xA gk new,claims):=by kernel_rfl):ao P ops bF st (eK w0 M u N β ay) (f+1) b0 a w:=by
  subst jf
  exact S.hoist ax qd aI bB K
theorem aj.Bn {ay:List (List Value)} (S:aj P n w0 M u N β σ a w) (jf:σ.ay=ay:=by kernel_rfl):eK w0 M u N β ay w:=jf▸S.rc
def uu (l:Array Bool):List Nat->Array Bool
  |[]=>l
  |i::r=>uu (l.setIfInBounds i true) r
theorem xF:∀(r:List Oper) (σ:bw) (c0:List Value) (z:bw×List (Ask×Value)),g9 P n ops r σ c0=some z->g9 P n ops r σ (z.2.map (·.2))=some z
  |
    [],σ,c0,z,h=>by
    simp only [g9,Option.some.injEq] at h ⊢
    subst h;rfl
  |o::r,σ,c0,z,h=>by
    unfold g9 at h ⊢
    split at h
    · cases h
    · rw [Option.bind_eq_some_iff] at h ⊢
      obtain⟨σ',h1,ah⟩:=h
      exact⟨σ',h1,xF r σ' c0 z ah⟩
    · split at h
      · cases h
      · rw [Option.bind_eq_some_iff] at h ⊢
        obtain⟨σ',h1,ah⟩:=h
        exact⟨σ',h1,xF r σ' c0 z ah⟩
      · split at h
        · cases h
        · rw [Option.bind_eq_some_iff] at h
          obtain⟨σ',h1,ah⟩:=h
          rw [Option.map_eq_some_iff] at ah
          obtain⟨x,aE,b2⟩:=ah
          subst b2
          simp only [List.map_cons]
          rw [h1]
          simp only [Option.bind_some,xF r σ' _ x aE,Option.map_some]
      · rw [Option.bind_eq_some_iff] at h ⊢
        obtain⟨σ',h1,ah⟩:=h
        exact⟨σ',h1,xF r σ' c0 z ah⟩
      · split at h
        · exact xF r _ c0 z h
        · cases h
def C0 (ops:Array Oper) (i:Nat) (l:List Nat):List Nat:=
  match ops[i]? with
  |some o=>match o.dst with
    |some d=>d::l
    |none=>l
  |none=>l
def Az (P:Program) (n:Nat) (ops:Array Oper) (st:Nat):List Nat->Array Bool->bw->List Value->Option (bw×List (Ask×Value)×List (List (List Value)))
  |
    [],_,σ,_=>some (σ,[],[])
  |i::is,l,σ,dx=>
    bif AD ops st l i [i]&&zk P ops σ i then
      match mB P n ops i 1 σ dx (C0 ops i (kJ σ.env)) 1000 with
      |none=>none
      |some z=>(Az P n ops st is (l.setIfInBounds i true) z.1 (dx.drop z.2.length)).map fun x=>(x.1,z.2++x.2.1,σ.ay::x.2.2)
    else none
theorem fe.app {P:Program} {u:World} {N:aw}:∀{l r:List (Ask×Value)},fe P u N (l++r)->fe P u N l/\fe P u N r
  |[],_,h=>⟨trivial,h⟩
  |_::_,_,h=>⟨⟨h.1,(fe.app h.2).1⟩,(fe.app h.2).2⟩
theorem aaU {i k:Nat} {c0:List Value} {keep:List Nat} {m:Nat} {z:bw×List (Ask×Value)} (h:mB P n ops i k σ c0 keep m=some z):mB P n ops i k σ (z.2.map (·.2)) keep m=some z:=by
  unfold mB at h ⊢
  cases hb:Nat.ble (i+k) ops.size
  · rw [hb] at h;cases h
  · rw [hb] at h
    simp only [cond_true,Option.map_eq_some_iff] at h ⊢
    obtain⟨x,h1,ah⟩:=h
    subst ah
    exact⟨x,xF _ _ _ x h1,rfl⟩
theorem aj.RB {ay:List (List Value)}:∀(is:List Nat) (b0:Array Bool) (σ:bw) (dx:List Value) (z:bw×List (Ask×Value)×List (List (List Value))) (a:Act) (f:Nat),aj P n w0 M u N β σ a w->Az P n ops st is b0 σ dx=some z->fe P u N z.2.1->z.2.2=List.replicate is.length ay->
    (∀aD,aj P n w0 M u N β z.1 aD w->ao P ops bF st (eK w0 M u N β ay) f (uu b0 is) aD w)->ao P ops bF st (eK w0 M u N β ay) (f+is.length) b0 a w
  |
    [],b0,σ,dx,z,a,f,S,h,_,_,K=>by
    simp only [Az,Option.some.injEq] at h
    subst h
    exact K a S
  |i::is,b0,σ,dx,z,a,f,S,h,aI,hb,K=>by
    unfold Az at h
    cases hc:(AD ops st b0 i [i]&&zk P ops σ i)
    · rw [hc] at h;cases h
    · rw [hc] at h
      simp only [cond_true] at h
      rw [Bool.and_eq_true] at hc
      split at h
      · cases h
      · rename_i y hy
        rw [Option.map_eq_some_iff] at h
        obtain⟨x,h1,ah⟩:=h
        subst ah
        simp only [List.length_cons,List.replicate_succ,List.cons.injEq] at hb
        obtain⟨Ij,ad8⟩:=hb
        subst Ij
        obtain⟨ae,eP⟩:=fe.app aI
        exact aj.hoist (keep:=C0 ops i (kJ σ.env)) (m:=1000) S hc.1 hc.2 ae (aaU hy) fun aD bT=>aj.RB is _ y.1 _ x aD f bT h1 eP ad8 K
theorem aj.hm {ay:List (List Value)} (S:aj P n w0 M u N β σ a w) {f1:Nat} {b0:Array Bool} (f:Nat) (is:List Nat) (gk:List Nat) (new:Env) {claims:List (Ask×Value)} (aI:fe P u N claims)
    (K:∀aD,aj P n w0 M u N β (σ.xA gk new) aD w->ao P ops bF st (eK w0 M u N β ay) f (uu b0 is) aD w)
    (bB:(Az P n ops st is b0 σ (claims.map (·.2))).map (fun x=>((⟨x.1.keep 1000 (qv σ.env gk new++kJ new),x.1.ay.take 1000⟩:bw),x.2))=some (σ.xA gk new,claims,List.replicate is.length ay):=by kernel_rfl) (bm:f1=f+is.length:=by kernel_rfl):ao P ops bF st (eK w0 M u N β ay) f1 b0 a w:=by
  subst bm
  rw [Option.map_eq_some_iff] at bB
  obtain⟨x,h1,ah⟩:=bB
  simp only [Prod.mk.injEq] at ah
  obtain⟨bA,bt⟩:=ah
  exact aj.RB is b0 σ _ x a f S h1 (by rw [bt];exact aI) (by rw [bt]) fun aD bT=>K aD (bA▸bT.Ff 1000 (qv σ.env gk new++kJ new))
def nY (eC:List (Nat×Bool)) (i:Nat) (d:Option Nat) (σ:bw):bw×List (Bool×Bool):=
  match Kq eC i,d with
  |some b,some d=>match look σ.env d with
    |some (.v (.bool c))=>(⟨(d,.v (.bool b))::σ.env,σ.ay⟩,[(c,b)])
    |_=>(σ,[])
  |_,_=>(σ,[])
theorem aj.nY (S:aj P n w0 M u N β σ a w) {eC:List (Nat×Bool)} {i:Nat} {d:Option Nat} (h:ku (nY eC i d σ).2):aj P n w0 M u N β (Go.Proofs.YtmeoackmjdoecaaGreat.nY eC i d σ).1 a w:=by
  unfold Go.Proofs.YtmeoackmjdoecaaGreat.nY at h ⊢
  split
  · rename_i b d hb
    simp only [hb] at h
    split
    · rename_i c hc
      simp only [hc] at h
      have e:c=b:=h.1
      subst e
      refine⟨S.mA,S.dh,fun t s bC=>?_,fun t k o bC=>?_,S.box,S.inj,S.new,S.sep,S.ed,S.kM⟩
      · rw [pr] at bC
        split at bC
        · rename_i e;subst e
          simp only [Option.some.injEq] at bC
          subst bC
          exact S.env _ _ hc
        · exact S.env t s bC
      · rw [pr] at bC
        split at bC
        · simp only [Option.some.injEq] at bC;cases bC
        · exact S.ok t k o bC
    · exact S
  · exact S
def tz (ops:Array Oper) (i:Nat):Option Nat:=(ops[i]?).bind (·.dst)
def ql (P:Program) (n:Nat) (ops:Array Oper) (st:Nat) (β:Nat->Nat) (eC:List (Nat×Bool)):List Nat->Array Bool->bw->Option (bw×List (Bool×Bool))
  |
    [],_,σ=>some (σ,[])
  |i::r,l,σ=>bif Bh ops st l i&&EI P ops β σ i then
      match g9 P n ops ((ops.toList.drop i).take 1) σ [] with
      |some (bf,[])=>(ql P n ops st β eC r (l.setIfInBounds i true) (nY eC i (tz ops i) bf).1).map fun z=>(z.1,(nY eC i (tz ops i) bf).2++z.2)
      |_=>none
    else none
theorem aj.Jh {eC:List (Nat×Bool)}:∀(hs:List Nat) (b0:Array Bool) (σ:bw) (z:bw×List (Bool×Bool)) (a:Act) (f:Nat),aj P n w0 M u N β σ a w->(b0.getD st false=false->C w)->ql P n ops st β eC hs b0 σ=some z->ku z.2->
    (∀aD,aj P n w0 M u N β z.1 aD w->ao P ops bF st C f (uu b0 hs) aD w)->ao P ops bF st C (f+hs.length) b0 a w
  |
    [],b0,σ,z,a,f,S,bx,h,hb,K=>by
    simp only [ql,Option.some.injEq] at h
    subst h
    exact K a S
  |i::r,b0,σ,z,a,f,S,bx,h,rr,K=>by
    simp only [ql] at h
    cases hb:(Bh ops st b0 i&&EI P ops β σ i) with
    |false=>rw [hb] at h;cases h
    |true=>
      rw [hb] at h
      simp only [cond_true] at h
      simp only [Bool.and_eq_true] at hb
      split at h
      · rename_i bf he
        refine S.aeS hb.1 hb.2 bx he fun e4 jn=>?_
        have vV:i≠st:=fun e=>by
          have b2:=hb.1
          simp only [Bh,Bool.and_eq_true,Bool.not_eq_true'] at b2
          rw [e,Nat.beq_refl] at b2
          cases b2.2
        cases fB:ql P n ops st β eC r (b0.setIfInBounds i true) (Go.Proofs.YtmeoackmjdoecaaGreat.nY eC i (tz ops i) bf).1 with
        |none=>rw [fB] at h;cases h
        |some Fm=>
          rw [fB] at h
          simp only [Option.map_some,Option.some.injEq] at h
          subst h
          exact aj.Jh r _ _ Fm e4 f (jn.nY rr.left) (fun h'=>bx (by rwa [getD_set_ne false vV] at h')) fB rr.right K
      · cases h
theorem aj.Fg {W:Nat->Array Bool->Act->World->Prop} (S:aj P n w0 M u N β σ a w) (aO:W=ao P ops bF st C) (hs:List Nat) (eC:List (Nat×Bool)) {pC:List (Bool×Bool)} {f f1:Nat} {l l2:Array Bool} (bx:l.getD st false=false->C w) (rr:ku pC)
    (K:∀aD,aj P n w0 M u N β σ' aD w->W f l2 aD w)
    (bB:((ql P n ops st β eC hs l σ).bind fun s=>(rH s.1 (kJ σ'.env) σ'.ay.length).map fun x=>(x,s.2))=some (σ',pC):=by kernel_rfl) (hl:uu l hs=l2:=by kernel_rfl) (bm:f1=f+hs.length:=by kernel_rfl):ao P ops bF st C f1 l a w:=by
  subst bm aO hl
  cases he:ql P n ops st β eC hs l σ with
  |none=>rw [he] at bB;cases bB
  |some s=>
    rw [he] at bB
    simp only [Option.bind_some] at bB
    cases a2:rH s.1 (kJ σ'.env) σ'.ay.length with
    |none=>rw [a2] at bB;cases bB
    |some x=>
      rw [a2] at bB
      simp only [Option.map_some,Option.some.injEq,Prod.mk.injEq] at bB
      obtain⟨bA,bt⟩:=bB
      subst bA
      exact aj.Jh hs l σ s a f S bx he (bt▸rr) fun aD bT=>K aD (bT.prune a2)
theorem aj.dp {W:Nat->Array Bool->Act->World->Prop} (S:aj P n w0 M u N β σ a w) (aO:W=ao P ops bF st C) (hs:List Nat) {f f1:Nat} {l l2:Array Bool} (bx:l.getD st false=false->C w)
    (K:∀aD,aj P n w0 M u N β σ' aD w->W f l2 aD w)
    (bB:((ql P n ops st β [] hs l σ).bind fun s=>(rH s.1 (kJ σ'.env) σ'.ay.length).map fun x=>(x,s.2))=some (σ',[]):=by kernel_rfl) (hl:uu l hs=l2:=by kernel_rfl) (bm:f1=f+hs.length:=by kernel_rfl):ao P ops bF st C f1 l a w:=S.Fg aO hs [] bx .nil K bB hl bm
abbrev cZ (a_:aw) (ba:World) (N:aw) (u:World):Prop:=∀b,a_ b->N b/\u.heap[b]? =ba.heap[b]?
abbrev cr (m:Nat) (bg β:Nat->Nat):Prop:=∀k,k<m->β k=bg k
theorem ao.Md {ba:World} {a_:aw} {bg:Nat->Nat} {ay:List (List Value)} {f:Nat} {l:Array Bool} (S:aj P n w0 M u N β σ a w) (up:cZ a_ ba N u) (k3:cr ay.length bg β) (jf:σ.ay.take ay.length=ay)
    (h:eK w0 M ba a_ bg ay w->ao P ops bF st (eK w0 M ba a_ bg ay) f l a w):(l.getD st false=false->eK w0 M ba a_ bg ay w)/\ao P ops bF st (eK w0 M ba a_ bg ay) f l a w:=by
  have bx:eK w0 M ba a_ bg ay w:=⟨fun k cs hk=>by
      have fs:=(List.getElem?_eq_some_iff.1 hk).1
      rw [←k3 k fs]
      refine S.box k cs ?_
      rw [←jf,List.getElem?_take_of_lt fs] at hk
      exact hk,fun b hb=>⟨(S.sep b (up b hb).1).1,((S.sep b (up b hb).1).2.1).trans (up b hb).2⟩,S.ed⟩
  exact⟨fun _=>bx,h bx⟩
def xE (P:Program) (n:Nat) (ops:Array Oper) (i:Nat) (σ:bw) (c0:List Value):Option (bw×List (Ask×Value)):=
  match (ops.toList.drop i).take 1 with
  |[o]=>g9 P n ops [o] σ c0
  |_=>none
theorem aaT {i:Nat} {c0:List Value} {r:bw×List (Ask×Value)} (h:xE P n ops i σ c0=some r):∃o,ops[i]? =some o/\g9 P n ops [o] σ c0=some r:=by
  unfold xE at h
  split at h
  · rename_i o bD
    refine⟨o,?_,h⟩
    have h1:((ops.toList.drop i).take 1)[0]? =some o:=by rw [bD];rfl
    rw [List.getElem?_take_of_lt (by omega),List.getElem?_drop] at h1
    simpa using h1
  · cases h
def C3 (P:Program) (n:Nat) (ops:Array Oper) (st:Nat) (β:Nat->Nat) (i:Nat) (hs:List Nat) (eC:List (Nat×Bool)) (l:Array Bool) (σ:bw) (c0:List Value) (keep:List Nat) (m:Nat):Option (bw×List (Ask×Value)×List (Bool×Bool)):=
  match xE P n ops i σ c0 with
  |some r=>(ql P n ops st β eC hs (l.setIfInBounds i true) (nY eC i (tz ops i) r.1).1).bind fun s=>(rH s.1 keep m).map fun x=>(x,r.2,(nY eC i (tz ops i) r.1).2++s.2)
  |none=>none
theorem Ph {i:Nat} {hs keep:List Nat} {eC:List (Nat×Bool)} {l:Array Bool} {c0:List Value} {m:Nat} {claims:List (Ask×Value)} {pC:List (Bool×Bool)} (h:C3 P n ops st β i hs eC l σ c0 keep m=some (σ',claims,pC)):
    ∃s1 s2,xE P n ops i σ c0=some (s1,claims)/\ql P n ops st β eC hs (l.setIfInBounds i true) (nY eC i (tz ops i) s1).1=some s2/\rH s2.1 keep m=some σ'/\pC=(nY eC i (tz ops i) s1).2++s2.2:=by
  unfold C3 at h
  split at h
  · rename_i r bo
    cases ah:ql P n ops st β eC hs (l.setIfInBounds i true) (nY eC i (tz ops i) r.1).1 with
    |none=>rw [ah] at h;cases h
    |some s2=>
      rw [ah] at h
      simp only [Option.bind_some] at h
      cases aE:rH s2.1 keep m with
      |none=>rw [aE] at h;cases h
      |some ja=>
        rw [aE] at h
        simp only [Option.map_some,Option.some.injEq,Prod.mk.injEq] at h
        exact⟨r.1,s2,by rw [bo,←h.2.1],ah,by rw [aE,h.1],h.2.2.symm⟩
  · cases h
theorem ao.ala {ck:Nat->Nat} {ay:List (List Value)} {f:Nat} {l:Array Bool} (bT:aj P n w0 M u N ck σ' a w) (k3:∀k,k<σ.ay.length->ck k=β k)
    (h:ao P ops bF st (eK w0 M u N ck σ'.ay) f l a w) (hb:σ.ay=ay:=by kernel_rfl) (jf:σ'.ay.take ay.length=ay:=by kernel_rfl):(l.getD st false=false->eK w0 M u N β ay w)/\ao P ops bF st (eK w0 M u N β ay) f l a w:=
  ao.stay bT (fun k hk=>k3 k (by rw [hb];exact hk)) (fun k cs hk=>by
    have fs:=(List.getElem?_eq_some_iff.1 hk).1
    rw [←jf,List.getElem?_take_of_lt fs] at hk
    exact hk) h
theorem aj.BX {W:Nat->Array Bool->Act->World->Prop} {ba:World} {a_:aw} {bg:Nat->Nat} {ay:List (List Value)} (S:aj P n w0 M u N β σ a w) (aO:W=ao P ops bF st (eK w0 M ba a_ bg ay)) (up:cZ a_ ba N u) (k3:cr ay.length bg β)
    {i:Nat} (hs:List Nat) (eC:List (Nat×Bool)) {pC:List (Bool×Bool)} {claims:List (Ask×Value)} (aI:fe P u N claims) (rr:ku pC) {f f1:Nat} {l l2:Array Bool}
    (K:∀aD w' ck,aj P n w0 M u N ck σ' aD w'->cr ay.length bg ck->W f l2 aD w')
    (bB:∀ck,C3 P n ops st ck i hs eC l σ (claims.map (·.2)) (kJ σ'.env) σ'.ay.length=some (σ',claims,pC):=by intro ck;kernel_rfl)
    (jf:((xE P n ops i σ (claims.map (·.2))).map fun r=>r.1.ay.take ay.length)=some ay:=by kernel_rfl) (IT:Nat.ble ay.length σ.ay.length=true:=by kernel_rfl) (hl:uu (l.setIfInBounds i true) hs=l2:=by kernel_rfl) (bm:f1=f+hs.length:=by kernel_rfl):
    wpOp P ops (mx bF) i (fun aD w'=>((l.setIfInBounds i true).getD st false=false->eK w0 M ba a_ bg ay w')/\ao P ops bF st (eK w0 M ba a_ bg ay) f1 (l.setIfInBounds i true) aD w') a w:=by
  subst bm aO hl
  obtain⟨s1,s2,h1,ah,aE,b2⟩:=Ph (bB β)
  obtain⟨o,bD,he⟩:=aaT h1
  refine Pj bD he aI S fun e4 kQ MU jn hb=>?_
  obtain⟨ar4,akJ,z3,vC,acK,acM⟩:=Ph (bB MU)
  rw [h1] at z3
  simp only [Option.some.injEq,Prod.mk.injEq,and_true] at z3
  subst z3
  have apd:ay.length<=σ.ay.length:=Nat.le_of_ble_eq_true IT
  have Sc:cr ay.length bg MU:=fun k hk=>(hb k (by omega)).trans (k3 k hk)
  rw [h1] at jf
  simp only [Option.map_some,Option.some.injEq] at jf
  rw [acM] at rr
  exact ao.Md jn up Sc jf fun bx=>aj.Jh hs _ _ akJ e4 f (jn.nY rr.left) (fun _=>bx) vC rr.right fun aD bT=>K aD kQ MU (bT.prune acK) Sc
theorem aj.fv {W:Nat->Array Bool->Act->World->Prop} {ba:World} {a_:aw} {bg:Nat->Nat} {ay:List (List Value)} (S:aj P n w0 M u N β σ a w) (aO:W=ao P ops bF st (eK w0 M ba a_ bg ay)) (up:cZ a_ ba N u) (k3:cr ay.length bg β)
    {i:Nat} (hs:List Nat) {claims:List (Ask×Value)} (aI:fe P u N claims) {f f1:Nat} {l l2:Array Bool}
    (K:∀aD w' ck,aj P n w0 M u N ck σ' aD w'->cr ay.length bg ck->W f l2 aD w')
    (bB:∀ck,C3 P n ops st ck i hs [] l σ (claims.map (·.2)) (kJ σ'.env) σ'.ay.length=some (σ',claims,[]):=by intro ck;kernel_rfl)
    (jf:((xE P n ops i σ (claims.map (·.2))).map fun r=>r.1.ay.take ay.length)=some ay:=by kernel_rfl) (IT:Nat.ble ay.length σ.ay.length=true:=by kernel_rfl) (hl:uu (l.setIfInBounds i true) hs=l2:=by kernel_rfl) (bm:f1=f+hs.length:=by kernel_rfl):
    wpOp P ops (mx bF) i (fun aD w'=>((l.setIfInBounds i true).getD st false=false->eK w0 M ba a_ bg ay w')/\ao P ops bF st (eK w0 M ba a_ bg ay) f1 (l.setIfInBounds i true) aD w') a w:=S.BX aO up k3 hs [] aI .nil K bB jf IT hl bm
section
variable {W:Nat->Array Bool->Act->World->Prop} {f:Nat} {l:Array Bool}
abbrev qP (P:Program) (ops:Array Oper) (bF:Act->World->Prop) (st:Nat) (C:World->Prop) (f:Nat) (l:Array Bool) (a:Act) (w:World) (i:Nat):Prop:=
  wpOp P ops (mx bF) i (fun aD w'=>((l.setIfInBounds i true).getD st false=false->C w')/\ao P ops bF st C f (l.setIfInBounds i true) aD w') a w
theorem eJ (aO:W=ao P ops bF st C) (i:Nat) (h:qP P ops bF st C f l a w i) (bo:Region.ready .any ops l=[i]:=by kernel_rfl):W (f+1) l a w:=by
  subst aO;exact ao.one bo h
theorem jC (aO:W=ao P ops bF st C) (i j:Nat) (h:qP P ops bF st C f l a w i) (ah:qP P ops bF st C f l a w j) (bo:Region.ready .any ops l=[i,j]:=by kernel_rfl):W (f+1) l a w:=by
  subst aO;exact ao.many bo rfl (List.forall_mem_cons.2 ⟨h,List.forall_mem_cons.2 ⟨ah,List.forall_mem_nil _⟩⟩)
theorem wu (aO:W=ao P ops bF st C) (i j k:Nat) (h:qP P ops bF st C f l a w i) (ah:qP P ops bF st C f l a w j) (aE:qP P ops bF st C f l a w k) (bo:Region.ready .any ops l=[i,j,k]:=by kernel_rfl):W (f+1) l a w:=by
  subst aO;exact ao.many bo rfl (List.forall_mem_cons.2 ⟨h,List.forall_mem_cons.2 ⟨ah,List.forall_mem_cons.2 ⟨aE,List.forall_mem_nil _⟩⟩⟩)
theorem aiW (aO:W=ao P ops bF st C) (i j k m:Nat) (h:qP P ops bF st C f l a w i) (ah:qP P ops bF st C f l a w j) (aE:qP P ops bF st C f l a w k) (b2:qP P ops bF st C f l a w m) (bo:Region.ready .any ops l=[i,j,k,m]:=by kernel_rfl):W (f+1) l a w:=by
  subst aO;exact ao.many bo rfl (List.forall_mem_cons.2 ⟨h,List.forall_mem_cons.2 ⟨ah,List.forall_mem_cons.2 ⟨aE,List.forall_mem_cons.2 ⟨b2,List.forall_mem_nil _⟩⟩⟩⟩)
theorem mi (aO:W=ao P ops bF st C) (h:bF a w) (bo:Region.ready .any ops l=[]:=by kernel_rfl):W f l a w:=by
  subst aO;exact ao.done bo h f
end
theorem ao.b8 {f:Nat} {l:Array Bool} (h:(l.getD st false=false->C w)->ao P ops bF st C f l a w) (iY:l.getD st false=true:=by kernel_rfl):(l.getD st false=false->C w)/\ao P ops bF st C f l a w:=
  ⟨fun h0=>(by rw [iY] at h0;cases h0),h fun h0=>(by rw [iY] at h0;cases h0)⟩
theorem ao.dA {ba:World} {a_:aw} {bg:Nat->Nat} {ay:List (List Value)} {f:Nat} {l:Array Bool} (S:aj P n w0 M u N β σ a w) (up:cZ a_ ba N u) (k3:cr ay.length bg β)
    (h:(l.getD st false=false->eK w0 M ba a_ bg ay w)->ao P ops bF st (eK w0 M ba a_ bg ay) f l a w) (jf:σ.ay.take ay.length=ay:=by kernel_rfl):(l.getD st false=false->eK w0 M ba a_ bg ay w)/\ao P ops bF st (eK w0 M ba a_ bg ay) f l a w:=ao.Md S up k3 jf fun bx=>h fun _=>bx
end
end Go.Proofs.YtmeoackmjdoecaaGreat
namespace Go.Proofs.YtmeoackmjdoecaaGreat
open Go
set_option linter.unusedVariables false
section
variable {P:Program} {n:Nat} {w0:World} {M:aw} {u:World} {N:aw} {β:Nat->Nat} {σ:bw} {a:Act} {w:World} {ops:Array Oper} {bF:Act->World->Prop} {C:World->Prop} {st:Nat}
theorem aj.jk {ay:List (List Value)} (S:aj P n w0 M u N β σ a w) {f:Nat} {l:Array Bool} (i:Nat) (gk:List Nat) (new:Env) (m:Nat) (cF:List (Nat×List Value)) {claims:List (Ask×Value)} (aI:fe P u N claims)
    (K:∀aD w' ck,aj P n w0 M u N ck (σ.dl gk new m cF) aD w'->ao P ops bF st (eK w0 M u N ck (σ.dl gk new m cF).ay) f (l.setIfInBounds i true) aD w')
    (bB:mB P n ops i 1 σ (claims.map (·.2)) (qv σ.env gk new++kJ new) m=some (σ.dl gk new m cF,claims):=by kernel_rfl)
    (hb:σ.ay=ay:=by kernel_rfl) (jf:(σ.dl gk new m cF).ay.take ay.length=ay:=by kernel_rfl) (bo:Region.ready .any ops l=[i]:=by kernel_rfl):ao P ops bF st (eK w0 M u N β ay) (f+1) l a w:=
  ao.one bo (S.Mf aI bB fun aD w' ck bT k3=>ao.ala bT k3 (K aD w' ck bT) hb jf)
theorem aj.b8 (S:aj P n w0 M u N β σ a w) {f:Nat} {l:Array Bool} (i:Nat) (gk:List Nat) (new:Env) (m:Nat) (cF:List (Nat×List Value)) {claims:List (Ask×Value)} (aI:fe P u N claims)
    (K:∀aD w' ck,aj P n w0 M u N ck (σ.dl gk new m cF) aD w'->ao P ops bF st C f (l.setIfInBounds i true) aD w')
    (bB:mB P n ops i 1 σ (claims.map (·.2)) (qv σ.env gk new++kJ new) m=some (σ.dl gk new m cF,claims):=by kernel_rfl)
    (iY:(l.setIfInBounds i true).getD st false=true:=by kernel_rfl) (bo:Region.ready .any ops l=[i]:=by kernel_rfl):ao P ops bF st C (f+1) l a w:=
  ao.one bo (S.Mf aI bB fun aD w' ck bT k3=>ao.last iY (K aD w' ck bT))
end
def oT (i j k:Nat):Nat:=bif Nat.beq k i then j else bif Nat.beq k j then i else k
theorem Mi (i j k:Nat):oT i j k=if k=i then j else if k=j then i else k:=by
  unfold oT
  by_cases h:k=i
  · subst h;simp
  · have h1:Nat.beq k i=false:=by cases hb:Nat.beq k i with|false=>rfl|true=>exact absurd (Nat.eq_of_beq_eq_true hb) h
    rw [h1,cond_false,if_neg h]
    by_cases ah:k=j
    · subst ah;simp
    · have aE:Nat.beq k j=false:=by cases hb:Nat.beq k j with|false=>rfl|true=>exact absurd (Nat.eq_of_beq_eq_true hb) ah
      rw [aE,cond_false,if_neg ah]
theorem Mj (i j k:Nat):oT i j (oT i j k)=k:=by
  simp only [Mi]
  repeat' split
  all_goals omega
theorem yY {i j k n:Nat} (hi:i<n) (bJ:j<n) (hk:k<n):oT i j k<n:=by
  rw [Mi];repeat' split
  all_goals omega
def e9.E9 (i j:Nat):e9->e9
  | .v x=> .v x
  | .p k o=> .p (oT i j k) o
def yX (i j:Nat):Env->Env
  |[]=>[]
  |(t,s)::r=>(t,s.E9 i j)::yX i j r
def bw.s7 (σ:bw) (i j:Nat):bw:=⟨yX i j σ.env,(List.range σ.ay.length).map fun k=>σ.ay.getD (oT i j k) []⟩
theorem Kt {i j t:Nat}:∀e:Env,look (yX i j e) t=(look e t).map (e9.E9 i j)
  |
    []=>rfl
  |(s,x)::r=>by
    simp only [yX,pr]
    split
    · rfl
    · exact Kt r
section
variable {P:Program} {n:Nat} {w0:World} {M:aw} {u:World} {N:aw} {β:Nat->Nat} {σ:bw} {a:Act} {w:World}
theorem aj.s7 (S:aj P n w0 M u N β σ a w) (i j:Nat) (hi:Nat.blt i σ.ay.length=true:=by kernel_rfl) (bJ:Nat.blt j σ.ay.length=true:=by kernel_rfl):aj P n w0 M u N (fun k=>β (oT i j k)) (σ.s7 i j) a w:=by
  have hi:i<σ.ay.length:=by simpa [Nat.blt_eq] using hi
  have bJ:j<σ.ay.length:=by simpa [Nat.blt_eq] using bJ
  have hl:(σ.s7 i j).ay.length=σ.ay.length:=by simp [bw.s7]
  have bu:∀s:e9,(s.E9 i j).val (fun k=>β (oT i j k))=s.val β:=fun s=>by
    cases s with
    |v x=>rfl
    |p k o=>show aM (β (oT i j (oT i j k))) o=aM (β k) o;rw [Mj]
  refine⟨S.mA,S.dh,fun t s bC=>?_,fun t k o bC=>?_,fun k cs hk=>?_,fun x y hx hy h=>?_,fun k hk=>?_,fun b hb=>?_,S.ed,S.kM⟩
  · rw [show(σ.s7 i j).env=yX i j σ.env from rfl,Kt] at bC
    cases hs:look σ.env t with
    |none=>rw [hs] at bC;cases bC
    |some gw=>
      rw [hs] at bC
      simp only [Option.map_some,Option.some.injEq] at bC
      subst bC
      rw [bu];exact S.env t gw hs
  · rw [show(σ.s7 i j).env=yX i j σ.env from rfl,Kt] at bC
    rw [hl]
    cases hs:look σ.env t with
    |none=>rw [hs] at bC;cases bC
    |some gw=>
      rw [hs] at bC
      simp only [Option.map_some,Option.some.injEq] at bC
      cases gw with
      |v x=>cases bC
      |p JQ cL=>
        cases bC
        exact yY hi bJ (S.ok t JQ o hs)
  · have kI:k<σ.ay.length:=by rw [←hl];exact(List.getElem?_eq_some_iff.1 hk).1
    have aE:=yY hi bJ kI
    simp only [bw.s7,List.getElem?_map,List.getElem?_range kI,Option.map_some,Option.some.injEq] at hk
    rw [List.getD_eq_getElem?_getD,List.getElem?_eq_getElem aE,Option.getD_some] at hk
    exact S.box _ cs (by rw [List.getElem?_eq_getElem aE,hk])
  · rw [hl] at hx hy
    have:=S.inj _ _ (yY hi bJ hx) (yY hi bJ hy) h
    rw [←Mj i j x,this,Mj]
  · rw [hl] at hk
    exact S.new _ (yY hi bJ hk)
  · obtain⟨h1,ah,aE⟩:=S.sep b hb
    exact⟨h1,ah,fun k hk=>aE _ (yY hi bJ (by rwa [hl] at hk))⟩
theorem cr.E9 {m:Nat} {bg:Nat->Nat} (h:cr m bg β) (i j:Nat) (hi:Nat.ble m i=true:=by kernel_rfl) (bJ:Nat.ble m j=true:=by kernel_rfl):cr m bg (fun k=>β (oT i j k)):=fun k hk=>by
  have h1:=Nat.le_of_ble_eq_true hi
  have ah:=Nat.le_of_ble_eq_true bJ
  show β (oT i j k)=bg k
  rw [Mi,if_neg (by omega),if_neg (by omega)]
  exact h k hk
end
end Go.Proofs.YtmeoackmjdoecaaGreat
namespace Go.Proofs.YtmeoackmjdoecaaGreat
open Go
set_option linter.unusedVariables false
def rD:List (Nat×Ask×Value)->Nat->List (Ask×Value)
  |[],_=>[]
  |(j,c)::r,i=>bif Nat.beq j i then [c] else rD r i
abbrev w5:=List (bw×List Nat)×List (Nat×List (Ask×Value))×List (List (List Value))
def Fa (g:Nat->Option w5):List Nat->Option w5
  |
    []=>some ([],[],[])
  |i::r=>match g i,Fa g r with
    |some x,some y=>some (x.1++y.1,x.2.1++y.2.1,x.2.2++y.2.2)
    |_,_=>none
def wM (P:Program) (n:Nat) (ops:Array Oper) (st KN:Nat) (gz:List (Nat×Ask×Value)):Nat->Array Bool->bw->List Nat->Option w5
  |
    0,l,σ,rz=>match Region.ready .any ops l with
    |[]=>some ([(σ,rz)],[],[])
    |_=>none
  |f+1,l,σ,rz=>match Region.ready .any ops l with
    |
      []=>some ([(σ,rz)],[],[])
    |i::r=>Fa (fun i=>match mB P n ops i 1 σ ((rD gz i).map (·.2)) (C0 ops i (kJ σ.env)) 1000 with
      |
        none=>none
      |some z=>(wM P n ops st KN gz f (l.setIfInBounds i true) z.1 (bif Nat.blt σ.ay.length z.1.ay.length then rz++[i] else rz)).map fun x=>
        (x.1,(i,z.2)::x.2.1,bif (l.setIfInBounds i true).getD st false then x.2.2 else z.1.ay.take KN::x.2.2)) (i::r)
def Ml (keep:List Nat) (m:Nat):bw×List Nat->bw
  |(σ,[i,j])=>bif Nat.blt j i then(fun s:bw=>(⟨s.keep m keep,s.ay.take m⟩:bw)) (σ.s7 (σ.ay.length-2) (σ.ay.length-1)) else⟨σ.keep m keep,σ.ay.take m⟩
  |(σ,_)=>⟨σ.keep m keep,σ.ay.take m⟩
def Fb (P:Program) (n:Nat) (ops:Array Oper) (st:Nat) (ay:List (List Value)) (gz:List (Nat×Ask×Value)) (f:Nat) (l:Array Bool) (σ σ':bw) (c:Nat):Prop:=
  (wM P n ops st ay.length gz f l σ []).isSome=true/\
  (wM P n ops st ay.length gz f l σ []).map (fun z=>(z.1.map (Ml (kJ σ'.env) σ'.ay.length),z.2.1.map (·.2),z.2.2,z.1.all (fun x=>Nat.ble 2 x.1.ay.length||Nat.blt x.2.length 2)))=
  (wM P n ops st ay.length gz f l σ []).map (fun z=>(List.replicate c σ',z.2.1.map (fun e=>rD gz e.1),List.replicate z.2.2.length ay,true))
theorem U6 {g:Nat->Option w5}:∀{rs:List Nat} {z:w5},Fa g rs=some z->∀i∈rs,∃x,g i=some x/\(∀y∈x.1,y∈z.1)/\(∀e∈x.2.1,e∈z.2.1)/\∀b∈x.2.2,b∈z.2.2
  |
    [],_,_,i,hi=>by simp at hi
  |j::r,z,h,i,hi=>by
    unfold Fa at h
    split at h
    · rename_i x y hx hy
      simp only [Option.some.injEq] at h
      subst h
      rcases List.mem_cons.1 hi with e|e
      · subst e
        exact⟨x,hx,fun _ h=>List.mem_append_left _ h,fun _ h=>List.mem_append_left _ h,fun _ h=>List.mem_append_left _ h⟩
      · obtain⟨gI,h1,ah,aE,b2⟩:=U6 hy i e
        exact⟨gI,h1,fun y h=>List.mem_append_right _ (ah y h),fun y h=>List.mem_append_right _ (aE y h),fun y h=>List.mem_append_right _ (b2 y h)⟩
    · cases h
theorem TH {P:Program} {u:World} {N:aw}:∀{gz:List (Nat×Ask×Value)} {i:Nat},fe P u N (gz.map (·.2))->fe P u N (rD gz i)
  |
    [],_,_=>trivial
  |(j,c)::r,i,h=>by
    unfold rD
    cases Nat.beq j i
    · exact TH h.2
    · exact⟨h.1,trivial⟩
theorem ab9 {l:Array Bool} {i st:Nat} (h:(l.setIfInBounds i true).getD st false=false):l.getD st false=false:=by
  simp only [Array.getD_eq_getD_getElem?,Array.getElem?_setIfInBounds] at h ⊢
  split at h
  · split at h
    · simp at h
    · rename_i h1 ah;subst h1;rw [Array.getElem?_eq_none (by omega)];rfl
  · exact h
section
variable {P:Program} {n:Nat} {w0:World} {M:aw} {u:World} {N:aw} {ops:Array Oper} {bF:Act->World->Prop} {st:Nat} {ba:World} {a_:aw} {bg:Nat->Nat} {ay:List (List Value)}
theorem Mn {gz:List (Nat×Ask×Value)} (aI:fe P u N (gz.map (·.2))):∀(f:Nat) (l:Array Bool) (σ:bw) (rz:List Nat) (a:Act) (w:World) (β:Nat->Nat) (z:w5),aj P n w0 M u N β σ a w->
    (l.getD st false=false->cZ a_ ba N u/\cr ay.length bg β/\ay.length<=σ.ay.length)->wM P n ops st ay.length gz f l σ rz=some z->(∀e∈z.2.1,e.2=rD gz e.1)->(∀b∈z.2.2,b=ay)->
    (∀x∈z.1,∀aD w' ck,aj P n w0 M u N ck x.1 aD w'->bF aD w')->ao P ops bF st (eK w0 M ba a_ bg ay) f l a w
  |
    0,l,σ,rz,a,w,β,z,S,_,h,_,_,K=>by
    unfold wM at h
    split at h
    · rename_i bo
      simp only [Option.some.injEq] at h
      subst h
      exact⟨bo,K _ List.mem_cons_self a w β S⟩
    · cases h
  |f+1,l,σ,rz,a,w,β,z,S,hb,h,HN,bU,K=>by
    unfold wM at h
    split at h
    · rename_i bo
      simp only [Option.some.injEq] at h
      subst h
      exact ao.done bo (K _ List.mem_cons_self a w β S) _
    · rename_i i0 r bo
      refine ao.many bo rfl fun i hi=>?_
      obtain⟨x,h1,ah,aE,b2⟩:=U6 h i hi
      split at h1
      · cases h1
      · rename_i y hy
        rw [Option.map_eq_some_iff] at h1
        obtain⟨gI,hx,rfl⟩:=h1
        have hc:y.2=rD gz i:=HN _ (aE _ List.mem_cons_self)
        refine aj.Mf (keep:=C0 ops i (kJ σ.env)) (m:=1000) (claims:=rD gz i) (σ':=y.1) S (TH aI) (by rw [hy,←hc]) fun aD w' ck bT k3=>?_
        by_cases hs:(l.setIfInBounds i true).getD st false=false
        · obtain⟨up,bd,fl⟩:=hb (ab9 hs)
          have jf:y.1.ay.take ay.length=ay:=bU _ (b2 _ (by rw [hs];exact List.mem_cons_self))
          have hle:ay.length<=y.1.ay.length:=by
            have:=congrArg List.length jf
            rw [List.length_take] at this
            omega
          have Sd:cr ay.length bg ck:=fun k hk=>(k3 k (by omega)).trans (bd k hk)
          exact ao.Md bT up Sd jf fun _=>Mn aI f _ y.1 _ aD w' ck gI bT (fun _=>⟨up,Sd,hle⟩) hx (fun e he=>HN e (aE e (List.mem_cons_of_mem _ he))) (fun b et=>bU b (b2 b (by rw [hs];exact List.mem_cons_of_mem _ et))) fun v bu=>K v (ah v bu)
        · have hs:(l.setIfInBounds i true).getD st false=true:=by simpa using hs
          refine⟨fun h0=>(by rw [hs] at h0;cases h0),Mn aI f _ y.1 _ aD w' ck gI bT (fun h0=>(by rw [hs] at h0;cases h0)) hx (fun e he=>HN e (aE e (List.mem_cons_of_mem _ he))) (fun b et=>bU b (b2 b (by rw [hs];exact et))) fun v bu=>K v (ah v bu)⟩
def rQ (P:Program) (u:World) (N:aw) (gz:List (Nat×Ask×Value)):Prop:=fe P u N (gz.map (·.2))
theorem rQ.nil:rQ P u N []:=trivial
theorem rQ.cons (i:Nat) {q:Ask} {v:Value} {l:List (Nat×Ask×Value)} (h:fw P u N q v) (t:rQ P u N l):rQ P u N ((i,q,v)::l):=⟨h,t⟩
theorem aj.Mm {β:Nat->Nat} {σ:bw} {a:Act} {w:World} (S:aj P n w0 M u N β σ a w) {f:Nat} {l:Array Bool} (hb:l.getD st false=false->cZ a_ ba N u/\cr ay.length bg β/\ay.length<=σ.ay.length) (σ':bw) (c:Nat) {gz:List (Nat×Ask×Value)} (aI:rQ P u N gz)
    (K:∀aD w' ck,aj P n w0 M u N ck σ' aD w'->bF aD w') (bB:Fb P n ops st ay gz f l σ σ' c):ao P ops bF st (eK w0 M ba a_ bg ay) f l a w:=by
  obtain⟨h0,h1⟩:=bB
  rw [Option.isSome_iff_exists] at h0
  obtain⟨z,h0⟩:=h0
  rw [h0] at h1
  simp only [Option.map_some,Option.some.injEq,Prod.mk.injEq] at h1
  obtain⟨ah,aE,b2,cf⟩:=h1
  replace h1:=h0
  refine Mn aI f l σ [] a w β z S hb h1 (fun e he=>?_) (fun b hb=>?_) fun x hx aD w' ck bT=>?_
  · have:∀(L:List (Nat×List (Ask×Value))),L.map (·.2)=L.map (fun e=>rD gz e.1)->∀e∈L,e.2=rD gz e.1:=fun L ou e he=>by
      induction L with
      |nil=>simp at he
      |cons y r gQ=>
        simp only [List.map_cons,List.cons.injEq] at ou
        rcases List.mem_cons.1 he with bA|bA
        · subst bA;exact ou.1
        · exact gQ ou.2 bA
    exact this _ aE e he
  · rw [b2] at hb;exact(List.mem_replicate.1 hb).2
  · have he:Ml (kJ σ'.env) σ'.ay.length x=σ':=(List.mem_replicate.1 (ah▸List.mem_map_of_mem hx)).2
    have dU:=List.all_eq_true.1 cf x hx
    obtain⟨s,rz⟩:=x
    have cp:∀(s2:bw) (MV:Nat->Nat),aj P n w0 M u N MV s2 aD w'->(⟨s2.keep σ'.ay.length (kJ σ'.env),s2.ay.take σ'.ay.length⟩:bw)=σ'->bF aD w':=fun s2 MV rW e=>K aD w' MV (e▸rW.Ff σ'.ay.length (kJ σ'.env))
    unfold Ml at he
    split at he
    · rename_i s2 i j heq
      simp only [Prod.mk.injEq] at heq
      obtain⟨bA,bt⟩:=heq
      subst bA bt
      cases hb:Nat.blt j i
      · rw [hb] at he;exact cp s ck bT he
      · rw [hb] at he
        have hl:2<=s.ay.length:=by
          simp only [Bool.or_eq_true] at dU
          rcases dU with h|h
          · exact Nat.le_of_ble_eq_true h
          · simp [Nat.blt] at h
        have rW:=bT.s7 (s.ay.length-2) (s.ay.length-1) (by simp only [Nat.blt];exact Nat.ble_eq_true_of_le (by omega)) (by simp only [Nat.blt];exact Nat.ble_eq_true_of_le (by omega))
        exact cp _ _ rW he
    · rename_i s2 art gD heq
      simp only [Prod.mk.injEq] at heq
      obtain⟨bA,bt⟩:=heq
      subst bA bt
      exact cp s ck bT he
theorem aj.hQ {β:Nat->Nat} {σ:bw} {a:Act} {w:World} {W:Nat->Array Bool->Act->World->Prop} (S:aj P n w0 M u N β σ a w) (aO:W=ao P ops bF st (eK w0 M ba a_ bg ay)) (up:cZ a_ ba N u) (k3:cr ay.length bg β) (σ':bw) (c:Nat) {gz:List (Nat×Ask×Value)} (aI:rQ P u N gz) {f:Nat} {l:Array Bool}
    (K:∀aD w' ck,aj P n w0 M u N ck σ' aD w'->bF aD w') (bB:Fb P n ops st ay gz f l σ σ' c:=by exact⟨by kernel_rfl,by kernel_rfl⟩) (bc:Nat.ble ay.length σ.ay.length=true:=by kernel_rfl):W f l a w:=
  aO▸S.Mm (fun _=>⟨up,k3,Nat.le_of_ble_eq_true bc⟩) σ' c aI K bB
theorem aj.alB {β:Nat->Nat} {σ:bw} {a:Act} {w:World} {W:Nat->Array Bool->Act->World->Prop} (S:aj P n w0 M u N β σ a w) (aO:W=ao P ops bF st (eK w0 M ba a_ bg ay)) (σ':bw) (c:Nat) {gz:List (Nat×Ask×Value)} (aI:rQ P u N gz) {f:Nat} {l:Array Bool}
    (K:∀aD w' ck,aj P n w0 M u N ck σ' aD w'->bF aD w') (bB:Fb P n ops st ay gz f l σ σ' c:=by exact⟨by kernel_rfl,by kernel_rfl⟩) (iY:l.getD st false=true:=by kernel_rfl):W f l a w:=
  aO▸S.Mm (fun h0=>(by rw [iY] at h0;cases h0)) σ' c aI K bB
theorem aj.wL {β:Nat->Nat} {σ:bw} {a:Act} {w:World} (S:aj P n w0 M u N β σ a w) (σ':bw) (c:Nat) {gz:List (Nat×Ask×Value)} (aI:rQ P u N gz) {f:Nat} {l:Array Bool}
    (K:∀aD w' ck,aj P n w0 M u N ck σ' aD w'->bF aD w') (bB:Fb P n ops st ay gz f l σ σ' c:=by exact⟨by kernel_rfl,by kernel_rfl⟩) (bc:Nat.ble ay.length σ.ay.length=true:=by kernel_rfl):ao P ops bF st (eK w0 M u N β ay) f l a w:=
  S.Mm (fun _=>⟨fun _ h=>⟨h,rfl⟩,fun _ _=>rfl,Nat.le_of_ble_eq_true bc⟩) σ' c aI K bB
end
end Go.Proofs.YtmeoackmjdoecaaGreat
namespace Go.Proofs.YtmeoackmjdoecaaGreat
open Go
set_option linter.unusedVariables false
set_option linter.unusedSimpArgs false
def b5 (n a b:Int):Int:=if b<a\/n<a then a else if n>b then b else n
theorem Cm (n:Int):0<=b5 n 0 24/\b5 n 0 24<=24:=by
  unfold b5
  split
  · omega
  · split<;>omega
theorem aku {α:Type} {n k:Nat} {x:α} (h:n=k+1):List.replicate n x=List.replicate k x++[x]:=by
  subst h;exact List.replicate_succ'
def iT (b:a9) (g:Int) (x:az):a9:=if 0<=g/\g<b.U.length then⟨b.mem,b.U.set g.toNat x,b.outs,b.av⟩ else b
def cd (b:a9) (g:Int) (c:Bool) (F:az->az):a9×Bool:=
  if hK b=true/\(0<=g/\g<b.U.length)/\c=true then(⟨b.mem,b.U.set g.toNat (F (el b.U g.toNat)),b.outs,b.av⟩,true) else(b,false)
def G8 (x:aZ):a9:=⟨List.replicate 8 (List.replicate 4 0),x.U,x.outs,x.av⟩
def mC (h:ad) (m:Int) (b:a9):ad:=⟨h.mem,h.I.set m.toNat {el h.I m.toNat with U:=b.U,av:=b.av},h.buf,h.ar⟩
def q6 (h:ad) (m:Int):Bool:=dg h&&aS m 0 ((h.I.length:Int)-1)
theorem Eh {h:ad} {m:Int} (e:q6 h m=true):dg h=true/\0<=m/\m<h.I.length:=by
  simp only [q6,Bool.and_eq_true] at e
  have:=cM e.2
  exact⟨e.1,by omega,by omega⟩
theorem Ke {h:ad} {m:Int} (e:dg h=true/\0<=m/\m<h.I.length):q6 h m=true:=by
  simp only [q6,e.1,Bool.true_and,aS,Bool.and_eq_true,decide_eq_true_eq]
  omega
def bP (h:ad) (m:Int) (r:a9×Bool):ad×Bool:=
  if(dg h=true/\0<=m/\m<h.I.length)/\r.2=true then(mC h m r.1,true) else(h,false)
theorem Cg {h:ad} {m:Int} {b:a9} (hm:0<=m/\m<h.I.length):
    (h.I.set m.toNat {el h.I m.toNat with U:=b.U}).set m.toNat {el (h.I.set m.toNat {el h.I m.toNat with U:=b.U}) m.toNat with av:=b.av}=h.I.set m.toNat {el h.I m.toNat with U:=b.U,av:=b.av}:=by
  rw [fg (show m.toNat<h.I.length by omega),List.set_set]
theorem Xb {h:ad} {m:Int} {b:a9} (hm:0<=m/\m<h.I.length) (h1:b.U=(el h.I m.toNat).U) (ah:b.av=(el h.I m.toNat).av):mC h m b=h:=by
  unfold mC
  rw [h1,ah]
  show(⟨h.mem,h.I.set m.toNat (el h.I m.toNat),h.buf,h.ar⟩:ad)=h
  rw [UR (show m.toNat<h.I.length by omega)]
theorem PA {α β:Type} [GT α] {f:Option β->α->Option β} (bc:∀x,f none x=none):∀(xs:List α) (z:Option β),(xs.foldl f z).isSome=true->∀k,k<xs.length->∃u,(f (some u) (el xs k)).isSome=true
  |
    [],_,_,k,hk=>by simp at hk
  |x::r,z,h,k,hk=>by
    have dead:∀aU:List α,aU.foldl f none=none:=fun aU=>by
      induction aU with
      |nil=>rfl
      |cons y r gQ=>simp only [List.foldl_cons,bc,gQ]
    rw [List.foldl_cons] at h
    cases k with
    |zero=>
      cases z with
      |none=>rw [bc,dead] at h;cases h
      |some u=>
        refine⟨u,?_⟩
        show(f (some u) x).isSome=true
        cases e:f (some u) x with
        |none=>rw [e,dead] at h;cases h
        |some _=>rfl
    |succ k=>
      obtain⟨u,hu⟩:=PA bc r _ h k (by simpa using hk)
      exact⟨u,by rw [show el (x::r) (k+1)=el r k by simp [el]];exact hu⟩
theorem su {h:ad} (e:dg h=true) {k:Nat} (hk:k<h.I.length):iP (el h.I k)=true:=by
  simp only [dg,Bool.and_eq_true] at e
  obtain⟨u,hu⟩:=PA Me h.I _ e.2 k hk
  unfold pO at hu
  simp only [Option.bind_some] at hu
  split at hu
  · assumption
  · cases hu
theorem Lv {m:List (List Int)} {n p:Int} (h:iy m n=true):iR (gl m p)=true:=by
  unfold gl
  split
  · simp only [iy,Bool.and_eq_true] at h
    exact w7 h.1 (by omega)
  · decide
theorem ai3 {h:ad} (e:dg h=true) {m:Int} (hm:0<=m/\m<h.I.length) (p:Int):iR (l8 h m p)=true:=by
  have DC:=su e (k:=m.toNat) (by omega)
  have Jb:iy h.mem 12=true:=by
    simp only [dg,q4,Bool.and_eq_true] at e
    exact e.1.1.1.1
  unfold l8
  split
  · rename_i a2
    split
    · exact Lv Jb
    · rename_i hs
      have bD:=(ux DC).1
      have hpl:0<=p/\p<((el h.I m.toNat).outer.length:Int):=by omega
      have sy:=BS (ux DC).2 (k:=p.toNat) (by omega)
      have ub:nb (el h.I m.toNat) p.toNat=true:=by
        simp only [iP,Bool.and_eq_true] at DC
        exact Uz DC.2 (by omega)
      have bA:dw (el h.I m.toNat).outer p=el (el h.I m.toNat).outer p.toNat:=by
        unfold dw;rw [if_pos hpl]
      rw [bA] at hs
      have aff:el (el h.I m.toNat).outer p.toNat=⟨-1,0⟩:=by
        simp only [fz,Bool.or_eq_true,Bool.and_eq_true,decide_eq_true_eq] at sy
        rcases sy with sy|sy
        · exact sy
        · have:=cM sy.1.2
          exact absurd (by omega:(el (el h.I m.toNat).outer p.toNat).page≠ -1) hs
      unfold nb at ub
      rw [if_pos aff] at ub
      unfold gl
      split
      · exact ub
      · decide
  · decide
theorem alM {x:aZ} (h:iP x=true):hK (G8 x)=true:=by
  simp only [iP,p5,vw,Bool.and_eq_true] at h
  simp only [hK,G8,Bool.and_eq_true]
  exact⟨⟨⟨⟨h.1.2,by decide⟩,h.1.1.1.1.1.1.1⟩,h.1.1.2.1.1.1⟩,h.1.1.2.1.1.2⟩
theorem BJ {h:ad} (e:dg h=true) {m:Int} (hm:0<=m/\m<h.I.length):hK (aG h m)=true:=by
  have bu:=alM (su e (k:=m.toNat) (by omega))
  simp only [hK,G8,Bool.and_eq_true] at bu
  unfold aG
  rw [if_pos hm]
  simp only [hK,Bool.and_eq_true]
  refine⟨⟨⟨⟨bu.1.1.1.1,?_⟩,bu.1.1.2⟩,bu.1.2⟩,bu.2⟩
  simp only [iy,Bool.and_eq_true,beq_iff_eq]
  refine⟨?_,by simp⟩
  rw [List.all_eq_true]
  intro x hx
  obtain⟨i,_,rfl⟩:=List.mem_map.1 hx
  exact ai3 e hm _
structure Loc (r:a9->a9×Bool):Prop where
  eq:∀b kX,hK b=hK kX->b.U=kX.U->b.outs=kX.outs->b.av=kX.av->(r b).2=(r kX).2/\(r b).1.U=(r kX).1.U/\(r b).1.av=(r kX).1.av
  no:∀b,(r b).2=false->(r b).1.U=b.U/\(r b).1.av=b.av
def jK (b:a9) (g:Int) (c:eM):a9×Bool:=cd b g (km c) (fun x=>{x with bH:=c})
def iO (h:ad) (m g:Int) (c:eM):ad×Bool:=bP h m (jK (aG h m) g c)
def mI (h:ad) (m n:Int):ad×Bool:=bP h m (iM (aG h m) n)
def jL (b:a9) (g n:Int):a9×Bool:=cd b g (fr (aR b g).1.av n).2 (fun x=>{x with av:=(fr (aR b g).1.av n).1})
def mH (h:ad) (m g n:Int):ad×Bool:=bP h m (jL (aG h m) g n)
def cj (g:az):az:={g with aN:=if g.aN>=12 then 12 else g.aN+1}
def iN (g:az):az:=cj {g with halted:=true}
def cI (b:a9) (g:Int):dI:=(aR b g).1.exit
theorem Pl {K:Nat} {F:aw} {w:World} {b:a9} {p:ec} (h:GT.rd K F w b p) (g:Int):iu (cI b g):=by
  unfold cI aR
  split
  · exact a5.exit (ag.el (b_.U h) g.toNat (by omega))
  · exact⟨⟨by decide,by decide⟩,⟨by decide,by decide⟩,⟨by decide,by decide⟩⟩
def nd (kind:Int) (x:az):az:=if kind=4 then iN {x with exit:=⟨0,0,false,0⟩} else {x with exit:=⟨0,0,false,0⟩}
def j0 (b:a9) (g:Int):a9×Bool:=cd b g ((cI b g).kind==1||(cI b g).kind==4) (fun x=>nd (cI b g).kind x)
def mJ (h:ad) (m g:Int):ad×Bool:=bP h m (j0 (aG h m) g)
def eT (kind v:Int) (x:az):az:=cj {(if kind=2 then {x with acc:=v} else x) with exit:=⟨0,0,false,0⟩}
def jZ (b:a9) (g v:Int):a9×Bool:=cd b g (((cI b g).kind==2||(cI b g).kind==3)&&aS v 0 99) (fun x=>eT (cI b g).kind v x)
def mG (h:ad) (m g v:Int):ad×Bool:=bP h m (jZ (aG h m) g v)
def dF (t:List aA) (p:Int) (s:aA):List aA:=if 0<=p/\p<t.length then t.set p.toNat s else t
def jd (b:a9) (g page:Int) (s:aA):a9×Bool:=cd b g (aS page 0 3&&fz s 8) (fun x=>{x with written:=dF x.written page s})
theorem ak5 {b:a9} {g page:Int} {s:aA} (h:aS page 0 (4-1)=true):jd b g page s=cd b g (fz s 8) (fun x=>{x with written:=dF x.written page s}):=by
  unfold jd
  rw [show aS page 0 3=true from h,Bool.true_and]
theorem ak6 {b:a9} {g page:Int} {s:aA} (h:aS page 0 (4-1)=false):jd b g page s=cd b g false (fun x=>{x with written:=dF x.written page s}):=by
  unfold jd
  rw [show aS page 0 3=false from h,Bool.false_and]
def mK (h:ad) (m g page:Int) (s:aA):ad×Bool:=bP h m (jd (aG h m) g page s)
end Go.Proofs.YtmeoackmjdoecaaGreat
namespace Go.Proofs.YtmeoackmjdoecaaGreat
open Go
set_option linter.unusedVariables false
set_option linter.unusedSimpArgs false
def ij (e:a0) (tag page:Int):Bool:=(e.tag==tag)&&(e.page==page)
def j5 (b:List a0) (p:a0->Bool):List a0:=b.filter fun e=>!p e
def ds (b:List a0) (tag page:Int):List a0:=j5 b fun e=>ij e tag page
theorem Fj {b:List a0} {p:a0->Bool} {k:Nat} (hk:k<b.length) (h:p (el b k)=true):j5 (b.take (k+1)) p=j5 (b.take k) p:=by
  unfold j5
  rw [iH hk,List.filter_append]
  simp [h]
theorem Fh {b:List a0} {p:a0->Bool} {k:Nat} (hk:k<b.length) (h:p (el b k)=false):j5 (b.take (k+1)) p=j5 (b.take k) p++[el b k]:=by
  unfold j5
  rw [iH hk,List.filter_append]
  simp [h]
theorem Fi (b:List a0) (p:a0->Bool):(j5 b p).length<=b.length:=List.length_filter_le _ _
theorem EY {e:a0} {tag page:Int} (h:¬e.tag=tag):ij e tag page=false:=by simp [ij,h]
theorem UK {e:a0} {tag page:Int} (h:¬e.page=page):ij e tag page=false:=by simp [ij,h]
theorem akZ {e:a0} {tag page:Int} (h:e.tag=tag) (ah:e.page=page):ij e tag page=true:=by simp [ij,h,ah]
def cq (m g:Int):Int:=if(0<=m/\m<=2)/\0<=g/\g<=1 then 1+g+m*2 else 0
theorem yZ (m g:Int):aq (cq m g):=by
  unfold cq
  split
  · exact⟨by omega,by omega⟩
  · exact⟨by decide,by decide⟩
def cV (b:a9) (g page:Int):a9×Bool:=cd b g (aS page 0 3) (fun x=>{x with live:=dF x.live page (dw x.written page)})
theorem Zk {b:a9} {g:Int} {c:Bool} {F:az->az} (h:(cd b g c F).2=true):0<=g/\g<b.U.length:=by
  unfold cd at h
  split at h
  · rename_i e;exact e.2.1
  · cases h
def C7 (h:ad) (m g page:Int):ad:=
  ⟨h.mem,h.I.set m.toNat {el h.I m.toNat with tables:=(el h.I m.toNat).tables.set g.toNat (gL (el (el h.I m.toNat).tables g.toNat) page)},ds h.buf (cq m g) page,ds h.ar (cq m g) page⟩
def kD (h:ad) (m g page:Int):ad×Bool:=
  if(bP h m (cV (aG h m) g page)).2=true then(C7 (bP h m (cV (aG h m) g page)).1 m g page,true) else(h,false)
theorem akn {h:ad} {m:Int} {r:a9×Bool} (e:(bP h m r).2=false):(bP h m r).1=h:=by
  unfold bP at e ⊢
  split at e
  · cases e
  · rename_i bc;rw [if_neg bc]
theorem ako {h:ad} {m:Int} {r:a9×Bool} (e:(bP h m r).2=true):(dg h=true/\0<=m/\m<h.I.length)/\r.2=true/\(bP h m r).1=mC h m r.1:=by
  unfold bP at e ⊢
  split at e
  · rename_i bc;exact⟨bc.1,bc.2,by rw [if_pos bc]⟩
  · cases e
theorem Xa (h:ad) (m:Int) (b:a9):(mC h m b).I.length=h.I.length/\(el (mC h m b).I m.toNat).tables.length=(el h.I m.toNat).tables.length:=by
  refine⟨by simp [mC],?_⟩
  unfold mC
  by_cases hk:m.toNat<h.I.length
  · simp only
    rw [fg hk]
  · simp only
    rw [List.set_eq_of_length_le (by omega)]
theorem agG {x:aZ} (h:iP x=true):x.tables.length=x.U.length:=by
  simp only [iP,p5,Bool.and_eq_true,decide_eq_true_eq] at h
  exact h.1.1.1.1.1.1.2
theorem akm {h:ad} {m g page:Int} (e:(bP h m (cV (aG h m) g page)).2=true):
    (0<=m/\m<(bP h m (cV (aG h m) g page)).1.I.length)/\0<=g/\g<(el (bP h m (cV (aG h m) g page)).1.I m.toNat).tables.length:=by
  obtain⟨h1,ah,aE⟩:=ako e
  have b2:=Xa h m (cV (aG h m) g page).1
  have cf:=Zk (b:=aG h m) ah
  have dU:=agG (su h1.1 (k:=m.toNat) (by omega))
  rw [show(aG h m).U=(el h.I m.toNat).U by unfold aG;rw [if_pos h1.2]] at cf
  rw [aE]
  omega
theorem aeT {h:ad} {m g page:Int} (e:(bP h m (cV (aG h m) g page)).2=false):kD h m g page=((bP h m (cV (aG h m) g page)).1,false):=by
  unfold kD
  rw [if_neg (by rw [e];exact fun h=>by cases h),akn e]
theorem RG {h:ad} {m g page:Int} (e:(bP h m (cV (aG h m) g page)).2=true):kD h m g page=(C7 (bP h m (cV (aG h m) g page)).1 m g page,true):=by
  unfold kD
  rw [if_pos e]
end Go.Proofs.YtmeoackmjdoecaaGreat
namespace Go.Proofs.YtmeoackmjdoecaaGreat
open Go
set_option linter.unusedVariables false
section
variable {w0:World} {M:aw} {u:World} {N:aw}
theorem J.sub {A B C:aw} (d:J A B) (h:∀b,C b->B b):J A C:=fun b x y=>d b x (h b y)
def oy (p p':cK):Prop:=p'.I.1=p.I.1
theorem gG {α:Type} [GT α] {K:Nat} {xs:List α} {p:af α} {H:jo} (h:p.1=H) (f:GT.rd K N u xs p):GT.rd K N u xs ((H,p.2):af α):=h▸f
theorem abb {h:ad} {q:af ad} {F:aw} (o:ai w0 M u N F [h] q):
    ∃
      H:aw,ai w0 M u N H h.I (q.2 0).I/\(∀b,H b->F b)/\∀(c8:World) (aH:aw) (y:List aZ) (cp:Nat->g6) (dc Fy:aw),(∀b,N b->¬H b->aH b/\c8.heap[b]? =u.heap[b]?)->ai w0 M c8 aH dc y (((q.2 0).I.1,cp):af aZ)->(∀b,dc b->H b\/Fy b)->J F Fy->y.length=h.I.length->(∀b,H b->aH b)->
      ∃mT:Nat->cK,ai w0 M c8 aH (Or F dc) [{h with I:=y}] ((q.1,mT):af ad)/\(mT 0).I.1=(q.2 0).I.1:=by
  obtain⟨H,h1,ah,aE⟩:=aba o (k:=0) (Nat.succ_pos 0)
  exact⟨H,h1,ah,fun c8 aH y cp dc Fy a b c d e f=>⟨_,aE c8 aH y ((q.2 0).I.1,cp) dc Fy a b c d (by show [ab _ _]=[ab _ _];rw [e];rfl) f,rfl⟩⟩
theorem Gl {K:Nat} {h:ad} {q:af ad} (o:GT.rd K N u [h] q):GT.rd K N u h.mem (q.2 0).mem:=a4.mem (d:=h) (ag.el o 0 (Nat.succ_pos 0))
theorem di {K:Nat} {h:ad} {q:af ad} (o:GT.rd K N u [h] q):GT.rd K N u h.I (q.2 0).I:=a4.I (d:=h) (ag.el o 0 (Nat.succ_pos 0))
theorem gY {K:Nat} {a:List (List Int)} {b:List aZ} {c d:List a0} {q:af ad} (o:GT.rd K N u [(⟨a,b,c,d⟩:ad)] q):GT.rd K N u b (q.2 0).I:=di o
theorem Cz {K:Nat} {h:ad} {q:af ad} (o:GT.rd K N u [h] q):GT.rd K N u h.buf (q.2 0).buf:=a4.buf (d:=h) (ag.el o 0 (Nat.succ_pos 0))
theorem Oy {K:Nat} {a:List (List Int)} {b:List aZ} {c d:List a0} {q:af ad} (o:GT.rd K N u [(⟨a,b,c,d⟩:ad)] q):GT.rd K N u c (q.2 0).buf:=Cz o
theorem CA {K:Nat} {h:ad} {q:af ad} (o:GT.rd K N u [h] q):GT.rd K N u h.ar (q.2 0).ar:=a4.ar (d:=h) (ag.el o 0 (Nat.succ_pos 0))
theorem Oz {K:Nat} {a:List (List Int)} {b:List aZ} {c d:List a0} {q:af ad} (o:GT.rd K N u [(⟨a,b,c,d⟩:ad)] q):GT.rd K N u d (q.2 0).ar:=CA o
theorem nN {β:Type} [GT β] {h:ad} {q:af ad} {F:aw} {m:Nat} {L:List β} {pl:af β} {uZ:List β->aZ} (o:ai w0 M u N F [h] q)
    (bm:∀F:aw,ai w0 M u N F h.I (q.2 0).I->∃H:aw,ai w0 M u N H L pl/\(∀b,H b->F b)/\∀(c8:World) (aH:aw) (y:List β) (fX:af β) (dc Fy:aw),(∀b,N b->¬H b->aH b/\c8.heap[b]? =u.heap[b]?)->ai w0 M c8 aH dc y fX->(∀b,dc b->H b\/Fy b)->J F Fy->GT.cells y fX=GT.cells L pl->(∀b,H b->aH b)->
      ∃cp,ai w0 M c8 aH (Or F dc) (h.I.set m (uZ y)) (((q.2 0).I.1,cp):af aZ)/\∀j,GT.cells (el (h.I.set m (uZ y)) j) (cp j)=GT.cells (el h.I j) ((q.2 0).I.2 j)):
    ∃H:aw,ai w0 M u N H L pl/\(∀b,H b->F b)/\∀(c8:World) (aH:aw) (y:List β) (cp:Nat->GT.Ptr β) (dc Fy:aw),(∀b,N b->¬H b->aH b/\c8.heap[b]? =u.heap[b]?)->ai w0 M c8 aH dc y ((pl.1,cp):af β)->(∀b,dc b->H b\/Fy b)->J F Fy->y.length=L.length->(∀b,N b->aH b)->
      ∃mT:Nat->cK,ai w0 M c8 aH (Or F dc) [{h with I:=h.I.set m (uZ y)}] ((q.1,mT):af ad)/\(mT 0).I.1=(q.2 0).I.1:=by
  obtain⟨Wp,cW,bM,c3⟩:=abb o
  obtain⟨H,h1,ah,aE⟩:=bm Wp cW
  refine⟨H,h1,fun b hb=>bM b (ah b hb),fun c8 aH y cp dc Fy up Bg hs hd hl hN=>?_⟩
  obtain⟨EB,eY,_⟩:=aE c8 aH y (pl.1,cp) dc Fy up Bg hs (fun b x z=>hd b (bM b x) z) (by show [ab _ _]=[ab _ _];rw [hl]) (fun b hb=>hN b (cW.sub b (ah b hb)))
  obtain⟨mT,au,fm⟩:=c3 c8 aH _ EB _ Fy (fun b hb bc=>up b hb fun dP=>bc (ah b dP)) eY (fun b hb=>hb.elim .inl fun hb=>(hs b hb).imp (ah b) id) hd (List.length_set) (fun b hb=>hN b (cW.sub b hb))
  exact⟨mT,⟨GT.fC au.own (Nat.le_refl _) (fun b hb=>hb.elim .inl fun hb=>hb.imp (bM b) id),fun b hb=>hb.elim (fun hb=>au.sub b (.inl hb)) (fun hb=>au.sub b (.inr (.inr hb))),fun b hb=>hb.elim (fun hb=>au.cU b (.inl hb)) (fun hb=>au.cU b (.inr (.inr hb)))⟩,fm⟩
def ane {α:Type} [GT α] (jV F:aw) (w:World) (r:α) (k:Int) (c:Bool) (e:Ending) (w':World):Prop:=
  ∃q b1,e= .returned (.tuple #[GT.val r q,R k,B c])/\bX jV w w'/\GT.own bz b1 w' r q/\aq k/\∀b,b1 b->F b\/(w.heap.size<=b/\b<w'.heap.size)
section
variable {P:Program} {n:Nat} {β:Nat->Nat} {σ:bw} {a:Act} {w:World} {ops:Array Oper} {Q:Exit->Act->World->Prop} {cS:Act->World->Prop}
end
theorem ai.b8 {α:Type} [GT α] {xs:List α} {p:af α} {F:aw} (o:ai w0 M u N F xs p) {a b:Nat} (lh:a<=b) (hb:b<=xs.length):ai w0 M u N F ((xs.drop a).take (b-a)) ((p.1.b8 a (GT.width α),fun i=>p.2 (a+i)):af α):=by
  refine⟨?_,o.sub,o.cU⟩
  have h:jU bz F u xs p:=o.own
  have hlen:((xs.drop a).take (b-a)).length=b-a:=by simp;omega
  have ks:∀i,i<b-a->el ((xs.drop a).take (b-a)) i=el xs (a+i):=fun i hi=>by
    unfold el
    rw [List.getD_eq_getElem?_getD,List.getD_eq_getElem?_getD,List.getElem?_take_of_lt hi,List.getElem?_drop]
  have vP:=h.cap
  obtain⟨G,cW,bM,c3⟩:=h.el
  show jU bz F u _ _
  refine⟨by have:=h.le;omega,by show _<=p.1.cap-a;omega,by show p.1.cap-a<=_;have:=h.o4;omega,fun z=>by show p.1.cap-a=0;have:=h.null z;omega,fun z=>?_,fun i hi=>?_,fun i=>G (a+i),fun i hi=>?_,fun i hi c hc=>?_,fun i j hi bJ qg=>?_⟩
  · obtain⟨s3,cs,T,gV,n3⟩:=h.row z
    refine⟨s3,cs,T,gV,?_⟩
    show(bif p.1.cap==a then p.1.off else p.1.off+a*GT.width α)+(p.1.cap-a)*GT.width α<=cs.size
    have bt:p.1.cap*GT.width α=a*GT.width α+(p.1.cap-a)*GT.width α:=by rw [←Nat.add_mul];congr 1;omega
    cases p.1.cap==a
    · simp only [cond_false];omega
    · simp only [cond_true];omega
  · rw [hlen] at hi
    rw [ks i hi]
    have bA:(p.1.cap==a)=false:=by simp;omega
    have:=h.cell (a+i) (by omega)
    show k6 u p.1.b ((bif p.1.cap==a then p.1.off else p.1.off+a*GT.width α)+i*GT.width α) _
    rw [bA]
    simp only [cond_false]
    rw [Nat.add_assoc,←Nat.add_mul]
    exact this
  · rw [hlen] at hi
    rw [ks i hi]
    exact cW (a+i) (by omega)
  · rw [hlen] at hi
    exact bM (a+i) (by omega) c hc
  · rw [hlen] at hi bJ
    exact c3 (a+i) (a+j) (by omega) (by omega) (by omega)
end
theorem E1 {X xs:List aZ} {k:Nat} {y:List aA} (h:X=xs.set k {el xs k with outer:=y}) (hk:k<xs.length) (hy:y.length=(el xs k).outer.length):(X.length=xs.length/\(el X k).outer.length=(el xs k).outer.length/\(el X k).out.length=(el xs k).out.length/\(el X k).bj.length=(el xs k).bj.length/\(el X k).U.length=(el xs k).U.length/\(el X k).outs.length=(el xs k).outs.length/\(el X k).tables.length=(el xs k).tables.length)/\el X k={el xs k with outer:=y}:=by
  subst h;rw [fg hk];exact⟨⟨List.length_set,hy,rfl,rfl,rfl,rfl,rfl⟩,rfl⟩
theorem US {X xs:List aZ} {k:Nat} {y:List (List Int)} (h:X=xs.set k {el xs k with out:=y}) (hk:k<xs.length) (hy:y.length=(el xs k).out.length):(X.length=xs.length/\(el X k).outer.length=(el xs k).outer.length/\(el X k).out.length=(el xs k).out.length/\(el X k).bj.length=(el xs k).bj.length/\(el X k).U.length=(el xs k).U.length/\(el X k).outs.length=(el xs k).outs.length/\(el X k).tables.length=(el xs k).tables.length)/\el X k={el xs k with out:=y}:=by
  subst h;rw [fg hk];exact⟨⟨List.length_set,rfl,hy,rfl,rfl,rfl,rfl⟩,rfl⟩
theorem BL {X xs:List aZ} {k:Nat} {y:List Bool} (h:X=xs.set k {el xs k with bj:=y}) (hk:k<xs.length) (hy:y.length=(el xs k).bj.length):(X.length=xs.length/\(el X k).outer.length=(el xs k).outer.length/\(el X k).out.length=(el xs k).out.length/\(el X k).bj.length=(el xs k).bj.length/\(el X k).U.length=(el xs k).U.length/\(el X k).outs.length=(el xs k).outs.length/\(el X k).tables.length=(el xs k).tables.length)/\el X k={el xs k with bj:=y}:=by
  subst h;rw [fg hk];exact⟨⟨List.length_set,rfl,rfl,hy,rfl,rfl,rfl⟩,rfl⟩
theorem E2 {X xs:List aZ} {k:Nat} {y:List bO} (h:X=xs.set k {el xs k with tables:=y}) (hk:k<xs.length) (hy:y.length=(el xs k).tables.length):(X.length=xs.length/\(el X k).outer.length=(el xs k).outer.length/\(el X k).out.length=(el xs k).out.length/\(el X k).bj.length=(el xs k).bj.length/\(el X k).U.length=(el xs k).U.length/\(el X k).outs.length=(el xs k).outs.length/\(el X k).tables.length=(el xs k).tables.length)/\el X k={el xs k with tables:=y}:=by
  subst h;rw [fg hk];exact⟨⟨List.length_set,rfl,rfl,rfl,rfl,rfl,hy⟩,rfl⟩
theorem UQ {α:Type} [GT α] {xs:List α} {k:Nat}:xs.set k (el xs k)=xs:=by
  by_cases h:k<xs.length
  · rw [hJ h];exact List.set_getElem_self h
  · exact List.set_eq_of_length_le (by omega)
end Go.Proofs.YtmeoackmjdoecaaGreat
namespace Go.Proofs.YtmeoackmjdoecaaGreat
open Go
set_option linter.unusedVariables false
set_option linter.unusedSimpArgs false
inductive Fr where
  |seq (y:Code)
  |tk (id:Nat)
  |hG (f:Act->World->Prop)
def lS (P:Program) (Q:Exit->Act->World->Prop):List Fr->Exit->Act->World->Prop
  |[]=>Q
  | .seq y::r=>Exit.then (y.wp P (lS P Q r)) (lS P Q r)
  | .tk id::r=>Exit.inBlock id (lS P Q r)
  | .hG f::r=>Exit.then f (lS P Q r)
inductive eD where
  |code (c:Code) (db:List Fr)
  |ops (ops:Array Oper) (i:Nat) (db:List Fr)
  |ex (e:Exit) (db:List Fr)
def eD.wp (P:Program) (Q:Exit->Act->World->Prop):eD->Act->World->Prop
  | .code c db=>c.wp P (lS P Q db)
  | .ops o i db=>jI P o (lS P Q db) i
  | .ex e db=>lS P Q db e
structure c_ where
  ca:eD
  σ:bw
  asks:List Ask
def iv (P:Program) (n:Nat):Nat->eD->bw->List Value->c_
  |
    0,ca,σ,_=>⟨ca,σ,[]⟩
  |k+1,.code c db,σ,c0=>
    match c with
    | .skip=>iv P n k (.ex .normal db) σ c0
    | .seq x y=>iv P n k (.code x (.seq y::db)) σ c0
    | .block id x=>iv P n k (.code x (.tk id::db)) σ c0
    | .exit id=>iv P n k (.ex (.exit id) db) σ c0
    | .ret=>⟨.ex .ret [],σ,[]⟩
    | .cond c x y=>
      match σ.get c with
      |some (.v (.bool b))=>iv P n k (.code (bif b then x else y) db) σ c0
      |_=>⟨.code (.cond c x y) db,σ,[]⟩
    | .region _ ops false=>iv P n k (.ops ops 0 db) σ c0
    | .region id ops true=>
      bif P.follows .mixedOrders&&Region.lexB .any ops then
        match k_ P n ops ops.toList σ c0 with
        |some (σ',l)=>
          let r:=iv P n k (.ex .normal db) σ' (c0.drop l.length)
          ⟨r.ca,r.σ,l.map (·.1)++r.asks⟩
        |none=>⟨.code (.region id ops true) db,σ,[]⟩
      else⟨.code (.region id ops true) db,σ,[]⟩
    |c=>⟨.code c db,σ,[]⟩
  |k+1,.ops ops i db,σ,c0=>
    match ops.toList[i]? with
    |none=>iv P n k (.ex .normal db) σ c0
    |some o=>
      match g9 P n ops [o] σ (c0.take 1) with
      |none=>⟨.ops ops i db,σ,[]⟩
      |some (σ',[])=>iv P n k (.ops ops (i+1) db) σ' c0
      |some (σ',(q,_)::_)=>
        let r:=iv P n k (.ops ops (i+1) db) σ' (c0.drop 1)
        ⟨r.ca,r.σ,q::r.asks⟩
  |k+1,.ex .normal db,σ,c0=>
    match db with
    | .seq y::r=>iv P n k (.code y r) σ c0
    | .tk _::r=>iv P n k (.ex .normal r) σ c0
    |db=>⟨.ex .normal db,σ,[]⟩
  |k+1,.ex (.exit id) db,σ,c0=>
    match db with
    | .seq _::r=>iv P n k (.ex (.exit id) r) σ c0
    | .hG _::r=>iv P n k (.ex (.exit id) r) σ c0
    | .tk DO::r=>bif Nat.beq id DO then iv P n k (.ex .normal r) σ c0 else iv P n k (.ex (.exit id) r) σ c0
    |[]=>⟨.ex (.exit id) [],σ,[]⟩
  |_+1,.ex .ret _,σ,_=>⟨.ex .ret [],σ,[]⟩
  |_+1,.ex e db,σ,_=>⟨.ex e db,σ,[]⟩
section
variable {P:Program} {n:Nat} {w0:World} {M:aw} {u:World} {N:aw} {β:Nat->Nat} {σ:bw} {a:Act} {w:World} {Q:Exit->Act->World->Prop} {ca:eD}
theorem Pk {ops:Array Oper} {i:Nat} {o:Oper} {σ':bw} {claims:List (Ask×Value)} {db:List Fr} (bD:ops.toList[i]? =some o) (bB:g9 P n ops [o] σ (claims.map (·.2))=some (σ',claims)) (aI:fe P u N claims) (S:aj P n w0 M u N β σ a w)
    (K:∀aD w' ck,aj P n w0 M u N ck σ' aD w'->eD.wp P Q (.ops ops (i+1) db) aD w'):eD.wp P Q (.ops ops i db) a w:=by
  have j9:ops[i]? =some o:=by simpa using bD
  have fs:i<ops.size:=(Array.getElem?_eq_some_iff.1 j9).1
  have key:=G4 (P:=P) (n:=n) (w0:=w0) (M:=M) (u:=u) (N:=N) (ops:=ops) (Q:=lS P Q db) σ' (List.range' (i+1) (ops.size-(i+1))) [o] i σ a w β claims
    (fun t fp bC=>by
      cases t with
      |zero=>simp at bC;subst bC;simpa using j9
      |succ t=>simp at bC) bB aI S (fun aD w' ck bT=>K aD w' ck bT)
  show jI P ops (lS P Q db) i a w
  unfold jI
  rw [show ops.size-i=1+(ops.size-(i+1)) by omega,←List.range'_append_1]
  exact key
theorem aaV {ops:Array Oper} {o:Oper} {σ':bw} {l:List (Ask×Value)} {claims:List (Ask×Value)} {q:Ask} {v:Value} (h:g9 P n ops [o] σ (((q,v)::claims).map (·.2) |>.take 1)=some (σ',l)) {fX:Ask} {x:Value} {r:List (Ask×Value)} (e:l=(fX,x)::r):l=[(fX,v)]:=by
  subst e
  simp only [List.map_cons,List.take_succ_cons,List.take_zero,g9] at h
  split at h
  · cases h
  · cases a2:σ.put n o.dst (.v undef) with
    |none=>rw [a2] at h;cases h
    |some bf=>rw [a2] at h;simp at h
  · split at h
    · cases h
    · rename_i gI hx
      cases a2:σ.put n o.dst gI with
      |none=>rw [a2] at h;cases h
      |some bf=>rw [a2] at h;simp at h
    · rename_i ae hx
      cases a2:σ.put n o.dst (.v v) with
      |none=>rw [a2] at h;cases h
      |some bf=>
        rw [a2] at h
        simp only [Option.bind_some,Option.map_some,Option.some.injEq,Prod.mk.injEq,List.cons.injEq] at h
        obtain⟨_,⟨h1,ah⟩,aE⟩:=h
        rw [←ah,←aE]
    · rename_i T cs hx
      cases a2:bw.put n ⟨σ.env,σ.ay++[cs]⟩ o.dst (.p σ.ay.length 0) with
      |none=>rw [a2] at h;cases h
      |some bf=>rw [a2] at h;simp at h
    · split at h
      · simp at h
      · cases h
theorem aaX {ops:Array Oper} {o:Oper} {σ':bw} {c0:List Value} (h:g9 P n ops [o] σ c0=some (σ',[])):g9 P n ops [o] σ []=some (σ',[]):=by
  simp only [g9] at h ⊢
  split at h
  · cases h
  · assumption
  · split at h
    · cases h
    · exact h
    · cases c0 with
      |
        nil=>cases h
      |cons v r=>
        simp only at h
        cases a2:σ.put n o.dst (.v v) with
        |none=>rw [a2] at h;cases h
        |some bf=>rw [a2] at h;simp at h
    · assumption
    · split at h
      · assumption
      · cases h
theorem aaW {ops:Array Oper} {o:Oper} {σ':bw} {l:List (Ask×Value)} (h:g9 P n ops [o] σ []=some (σ',l)):l=[]:=by
  simp only [g9] at h
  split at h
  · cases h
  · cases a2:σ.put n o.dst (.v undef) with
    |none=>rw [a2] at h;cases h
    |some bf=>rw [a2] at h;simp at h;exact h.2
  · split at h
    · cases h
    · rename_i gI hx
      cases a2:σ.put n o.dst gI with
      |none=>rw [a2] at h;cases h
      |some bf=>rw [a2] at h;simp at h;exact h.2
    · cases h
    · rename_i T cs hx
      cases a2:bw.put n ⟨σ.env,σ.ay++[cs]⟩ o.dst (.p σ.ay.length 0) with
      |none=>rw [a2] at h;cases h
      |some bf=>rw [a2] at h;simp at h;exact h.2
    · split at h
      · simp at h;exact h.2
      · cases h
theorem BW:∀db:List Fr,lS P Q db .ret a w=Q .ret a w
  |[]=>rfl
  | .seq _::r=>BW r
  | .tk _::r=>BW r
  | .hG _::r=>BW r
theorem Pf {ops:Array Oper} {σ':bw}:∀(l:List Oper) (σ:bw) (c0:List Value) (r:List (Ask×Value)),k_ P n ops l σ c0=some (σ',r)->r.map (·.2)=c0.take r.length/\k_ P n ops l σ (r.map (·.2))=some (σ',r)
  |
    [],σ,c0,r,h=>by
    simp only [k_,Option.some.injEq,Prod.mk.injEq] at h
    obtain⟨rfl,rfl⟩:=h
    exact⟨rfl,rfl⟩
  |o::l,σ,c0,r,h=>by
    have oc:=Pf (ops:=ops) (σ':=σ') l
    simp only [k_] at h ⊢
    split at h
    · cases h
    · cases a2:σ.put n o.dst (.v undef) with
      |none=>rw [a2] at h;cases h
      |some bf=>rw [a2] at h;simp only [Option.bind_some] at h ⊢;exact oc bf c0 r h
    · split at h
      · rename_i aJ x hx
        cases a2:σ.put n o.dst x with
        |none=>rw [a2] at h;cases h
        |some bf=>rw [a2] at h;simp only [Option.bind_some,hx,a2] at h ⊢;exact oc bf c0 r h
      · rename_i aJ q hx
        cases c0 with
        |nil=>cases h
        |cons v c0=>
          simp only at h
          cases a2:σ.put n o.dst (.v v) with
          |none=>rw [a2] at h;cases h
          |some bf=>
            rw [a2] at h
            simp only [Option.bind_some] at h
            cases bo:k_ P n ops l bf c0 with
            |none=>rw [bo] at h;cases h
            |some r'=>
              rw [bo] at h
              simp only [Option.map_some,Option.some.injEq,Prod.mk.injEq] at h
              obtain⟨h1,ah⟩:=h
              subst ah
              have:=oc bf c0 r'.2 (by rw [bo,←h1])
              refine⟨by simp [this.1],?_⟩
              simp only [List.map_cons,hx,a2,Option.bind_some,this.2,Option.map_some]
      · cases h
theorem T2 {α β:Type}:∀{l m:List (α×β)},l.map (·.1)=m.map (·.1)->l.map (·.2)=m.map (·.2)->l=m
  |
    [],[],_,_=>rfl
  |[],_::_,h,_=>by simp at h
  |_::_,[],h,_=>by simp at h
  |(a,b)::l,(c,d)::m,h,h'=>by
    simp only [List.map_cons,List.cons.injEq] at h h'
    rw [h.1,h'.1,T2 h.2 h'.2]
theorem fe.parts {l m:List (Ask×Value)} (h:fe P u N (l++m)):fe P u N l/\fe P u N m:=by
  induction l with
  |nil=>exact⟨trivial,h⟩
  |cons c l gQ=>exact⟨⟨h.1,(gQ h.2).1⟩,(gQ h.2).2⟩
theorem aj.xA (S:aj P n w0 M u N β σ a w) {id:Nat} {ops:Array Oper} {σ':bw} {claims:List (Ask×Value)} (aI:fe P u N claims)
    (hm:P.follows .mixedOrders=true) (bU:Region.lexB .any ops=true)
    (bB:k_ P n ops ops.toList σ (claims.map (·.2))=some (σ',claims)) (K:∀aD w',aj P n w0 M u N β σ' aD w'->Q .normal aD w'):(Code.region id ops true).wp P Q a w:=by
  have jn:aj P n w0 M u N β σ a {w with drawn:=w.drawn+1}:=S.ext (bX.draw aa w _)
  refine wp_region_quiet (C:=fun w'=>bX aa {w with drawn:=w.drawn+1} w') hm bU (bX.refl _ _) ?_
  exact G3 _ σ' _ ops.toList σ a claims bB aI jn fun aD bT w' oD=>K aD w' (bT.ext oD)
theorem lA:∀(k:Nat) (ca:eD) (σ:bw) (claims:List (Ask×Value)) (a:Act) (w:World) (β:Nat->Nat),
    (iv P n k ca σ (claims.map (·.2))).asks=claims.map (·.1)->fe P u N claims->aj P n w0 M u N β σ a w->
    (∀aD w' ck,aj P n w0 M u N ck (iv P n k ca σ (claims.map (·.2))).σ aD w'->eD.wp P Q (iv P n k ca σ (claims.map (·.2))).ca aD w')->eD.wp P Q ca a w
  |
    0,ca,σ,claims,a,w,β,_,_,S,K=>K a w β S
  |k+1,.code c db,σ,claims,a,w,β,h,aI,S,K=>by
    cases c with
    |skip=>exact wp_skip (lA k (.ex .normal db) σ claims a w β h aI S K)
    |seq x y=>exact wp_seq (lA k (.code x (.seq y::db)) σ claims a w β h aI S K)
    |block id x=>exact wp_block (lA k (.code x (.tk id::db)) σ claims a w β h aI S K)
    |exit id=>exact wp_exit (lA k (.ex (.exit id) db) σ claims a w β h aI S K)
    |ret=>exact wp_ret (show lS P Q db .ret a w by rw [BW];exact K a w β S)
    |cond c x y=>
      cases hc:σ.get c with
      |none=>simp only [iv,hc] at K;exact K a w β S
      |some s=>
        cases s with
        |p k o=>simp only [iv,hc] at K;exact K a w β S
        |v z=>
          cases z with
          |bool b=>
            simp only [iv,hc] at h K
            refine S.cond hc (fun e=>?_) (fun e=>?_)<;>subst e
            · exact lA k (.code x db) σ claims a w β h aI S K
            · exact lA k (.code y db) σ claims a w β h aI S K
          |_=>simp only [iv,hc] at K;exact K a w β S
    |region id ops d=>
      cases d with
      |false=>exact jI.start (lA k (.ops ops 0 db) σ claims a w β h aI S K)
      |true=>
        simp only [iv] at h K
        cases hb:(P.follows .mixedOrders&&Region.lexB .any ops) with
        |false=>simp only [hb,cond_false] at K;exact K a w β S
        |true=>
          simp only [hb,cond_true] at h K
          simp only [Bool.and_eq_true] at hb
          cases he:k_ P n ops ops.toList σ (claims.map (·.2)) with
          |none=>simp only [he] at K;exact K a w β S
          |some r=>
            obtain⟨σ',l⟩:=r
            simp only [he] at h K
            obtain⟨h1,ah⟩:=Pf _ _ _ _ he
            have hl:l=claims.take l.length:=by
              refine T2 ?_ ?_
              · have:=congrArg (List.take l.length) h
                rw [List.take_left' (by simp)] at this
                rw [this,List.map_take]
              · rw [h1,List.map_take]
            have hc:claims=l++claims.drop l.length:=by
              conv=>lhs;rw [←List.take_append_drop l.length claims]
              rw [←hl]
            generalize claims.drop l.length=gz at hc
            subst hc
            have hd:(List.map (fun x=>x.2) (l++gz)).drop l.length=gz.map (·.2):=by
              rw [List.map_append,List.drop_left' (by simp)]
            rw [hd] at h K
            rw [List.map_append] at h
            have h':=List.append_cancel_left h
            have yf:=aI.parts
            exact S.xA yf.1 hb.1 hb.2 ah (fun aD w' bT=>lA k (.ex .normal db) σ' gz aD w' β h' yf.2 bT K)
    |_=>exact K a w β S
  |k+1,.ops ops i db,σ,claims,a,w,β,h,aI,S,K=>by
    simp only [iv] at h K
    cases bD:ops.toList[i]? with
    |none=>
      simp only [bD] at h K
      have hle:ops.size<=i:=by
        have:=List.getElem?_eq_none_iff.1 bD
        simpa using this
      refine jI.done (Nat.ble_eq_true_of_le hle) ?_
      exact lA k (.ex .normal db) σ claims a w β h aI S K
    |some o=>
      simp only [bD] at h K
      cases he:g9 P n ops [o] σ ((claims.map (·.2)).take 1) with
      |none=>simp only [he] at K;exact K a w β S
      |some r=>
        obtain⟨σ',l⟩:=r
        simp only [he] at h K
        cases l with
        |nil=>
          simp only at h K
          exact Pk (claims:=[]) bD (aaX he) .nil S (fun aD w' ck bT=>lA k _ σ' claims aD w' ck h aI bT K)
        |cons c l=>
          obtain⟨q,x⟩:=c
          simp only at h K
          cases claims with
          |nil=>exact absurd (aaW he) (by simp)
          |cons c gz=>
            obtain⟨fX,v⟩:=c
            have hl:=aaV he rfl
            rw [hl] at he
            simp only [List.map_cons,List.drop_succ_cons,List.drop_zero,List.cons.injEq] at h K
            obtain⟨h1,ah⟩:=h
            subst h1
            exact Pk (claims:=[(q,v)]) bD he ⟨aI.1,trivial⟩ S (fun aD w' ck bT=>lA k _ σ' gz aD w' ck ah aI.2 bT K)
  |k+1,.ex e db,σ,claims,a,w,β,h,aI,S,K=>by
    cases e with
    |normal=>
      cases db with
      |nil=>exact K a w β S
      |cons f r=>
        cases f with
        |seq y=>exact lA k (.code y r) σ claims a w β h aI S K
        |tk id=>exact lA k (.ex .normal r) σ claims a w β h aI S K
        |hG f=>exact K a w β S
    |exit id=>
      cases db with
      |nil=>exact K a w β S
      |cons f r=>
        cases f with
        |seq y=>exact lA k (.ex (.exit id) r) σ claims a w β h aI S K
        |hG f=>exact lA k (.ex (.exit id) r) σ claims a w β h aI S K
        |tk DO=>
          simp only [iv] at h K
          show(if id=DO then lS P Q r .normal a w else lS P Q r (.exit id) a w)
          cases hb:Nat.beq id DO with
          |true=>
            simp only [hb,cond_true] at h K
            rw [if_pos (Nat.eq_of_beq_eq_true hb)]
            exact lA k (.ex .normal r) σ claims a w β h aI S K
          |false=>
            simp only [hb,cond_false] at h K
            rw [if_neg (fun e=>by subst e;simp at hb)]
            exact lA k (.ex (.exit id) r) σ claims a w β h aI S K
    |ret=>
      show lS P Q db .ret a w
      rw [BW]
      exact K a w β S
    |_=>exact K a w β S
def c_.go (P:Program) (n k:Nat) (dx:List Value) (r:c_):c_:=iv P n k r.ca r.σ dx
structure dD (P:Program) (Q:Exit->Act->World->Prop) (r:c_) (a:Act) (w:World):Prop where
  ok:eD.wp P Q r.ca a w
def eD.db:eD->List Fr
  | .ops _ _ k=>k
  | .code _ k=>k
  | .ex _ k=>k
structure Fq (P:Program) (Q:Exit->Act->World->Prop) (r:c_) (e:Exit) (a:Act) (w:World):Prop where
  ok:lS P Q r.ca.db e a w
theorem aj.go {r:c_} (S:aj P n w0 M u N β r.σ a w) (k:Nat) {claims:List (Ask×Value)} (aI:fe P u N claims)
    (K:∀aD w' ck,aj P n w0 M u N ck (r.go P n k (claims.map (·.2))).σ aD w'->dD P Q (r.go P n k (claims.map (·.2))) aD w')
    (h:(r.go P n k (claims.map (·.2))).asks=claims.map (·.1):=by kernel_rfl):dD P Q r a w:=⟨lA k r.ca r.σ claims a w β h aI S fun aD w' ck bT=>(K aD w' ck bT).ok⟩
def eD.Va:eD->Option Tmp
  | .code (.cond (.tmp t) _ _) _=>some t
  | .ops l i _=>match l.toList[i]? with
    |
      some o=>match o.guard with
      |
        some (j,_)=>(l.toList[j]?).bind (·.dst)
      |none=>match o.op with
        | .pick (.tmp t) _ _=>some t
        |_=>none
    |none=>none
  |_=>none
def c_.Gp (r:c_):Option Bool:=
  match r.ca.Va with
  |some t=>match look r.σ.env t with
    |some (.v (.bool e))=>some e
    |_=>none
  |none=>none
def bw.lit (σ:bw) (t:Option Tmp) (b:Bool):bw:=
  match t with
  |some t=>⟨(t,.v (.bool b))::σ.env,σ.ay⟩
  |none=>σ
def c_.lit (r:c_) (b:Bool):c_:=⟨r.ca,r.σ.lit r.ca.Va b,[]⟩
def c_.lt (r:c_) (t:Tmp) (b:Bool):c_:=⟨r.ca,r.σ.lit (some t) b,[]⟩
theorem aj.lit (S:aj P n w0 M u N β σ a w) (t:Tmp) {e b:Bool} (h:e=b) (he:look σ.env t=some (.v (.bool e)):=by kernel_rfl):aj P n w0 M u N β (σ.lit (some t) b) a w:=by
  subst h
  refine⟨S.mA,S.dh,fun BR s hs=>?_,fun BR k o hs=>?_,S.box,S.inj,S.new,S.sep,S.ed,S.kM⟩
  · simp only [bw.lit,pr] at hs
    split at hs
    · rename_i hX;subst hX
      simp at hs;subst hs
      exact S.env _ _ he
    · exact S.env BR s hs
  · simp only [bw.lit,pr] at hs
    split at hs
    · cases hs
    · exact S.ok BR k o hs
theorem aj.lt {r:c_} (S:aj P n w0 M u N β r.σ a w) (t:Tmp) {e b:Bool} (h:e=b) (K:aj P n w0 M u N β (r.lt t b).σ a w->dD P Q (r.lt t b) a w) (he:look r.σ.env t=some (.v (.bool e)):=by kernel_rfl):dD P Q r a w:=⟨(K (S.lit t h he)).ok⟩
theorem aj.bs {r:c_} (S:aj P n w0 M u N β r.σ a w) (k:Nat) {claims:List (Ask×Value)} (aI:fe P u N claims) (e:Bool)
    (bC:∀aD w' ck,e=true->aj P n w0 M u N ck ((r.go P n k (claims.map (·.2))).lit true).σ aD w'->dD P Q ((r.go P n k (claims.map (·.2))).lit true) aD w')
    (bm:∀aD w' ck,e=false->aj P n w0 M u N ck ((r.go P n k (claims.map (·.2))).lit false).σ aD w'->dD P Q ((r.go P n k (claims.map (·.2))).lit false) aD w')
    (h:(r.go P n k (claims.map (·.2))).asks=claims.map (·.1):=by kernel_rfl) (h':(r.go P n k (claims.map (·.2))).Gp=some e:=by kernel_rfl):dD P Q r a w:=
  S.go k aI (fun aD w' ck bT=>by
    generalize r.go P n k (claims.map (·.2))=r' at*
    unfold c_.Gp at h'
    split at h'
    · rename_i t h1
      split at h'
      · rename_i hX ah
        simp at h';subst h'
        have bA:∀b,r'.lit b=⟨r'.ca,r'.σ.lit (some t) b,[]⟩:=fun b=>by unfold c_.lit;rw [h1]
        cases hX with
        |true=>rw [bA] at bC;exact⟨(bC aD w' ck rfl (bT.lit t rfl ah)).ok⟩
        |false=>rw [bA] at bm;exact⟨(bm aD w' ck rfl (bT.lit t rfl ah)).ok⟩
      · cases h'
    · cases h') h
class w4 (e:Bool) (T F:outParam Prop):Prop where
  t:e=true->T
  f:e=false->F
instance (p:Prop) [Decidable p]:w4 (decide p) p (¬p):=⟨of_decide_eq_true,of_decide_eq_false⟩
instance {α:Type} [BEq α] [LawfulBEq α] (x y:α):w4 (x==y) (x=y) (¬x=y):=⟨eq_of_beq,ne_of_beq_false⟩
instance {α:Type} [BEq α] [LawfulBEq α] (x y:α):w4 (x != y) (¬x=y) (x=y):=⟨fun h=>bne_iff_ne.1 h,fun h=>by simpa using h⟩
theorem aj.a8 {r:c_} (S:aj P n w0 M u N β r.σ a w) (k:Nat) {claims:List (Ask×Value)} (aI:fe P u N claims) (e:Bool) {T F:Prop} [w4 e T F]
    (bC:∀aD w' ck,e=true->T->aj P n w0 M u N ck ((r.go P n k (claims.map (·.2))).lit true).σ aD w'->dD P Q ((r.go P n k (claims.map (·.2))).lit true) aD w')
    (bm:∀aD w' ck,e=false->F->aj P n w0 M u N ck ((r.go P n k (claims.map (·.2))).lit false).σ aD w'->dD P Q ((r.go P n k (claims.map (·.2))).lit false) aD w')
    (h:(r.go P n k (claims.map (·.2))).asks=claims.map (·.1):=by kernel_rfl) (h':(r.go P n k (claims.map (·.2))).Gp=some e:=by kernel_rfl):dD P Q r a w:=
  S.bs k aI e (fun aD w' ck h=>bC aD w' ck h (w4.t h)) (fun aD w' ck h=>bm aD w' ck h (w4.f h)) h h'
def eD.Cf:eD->Bool
  | .ex .ret []=>true
  | .ex .normal []=>true
  |_=>false
theorem WY {ca:eD} (h:ca.Cf=true) {fn:Func} {bF:Ending->World->Prop} (h1:bodyPost P fn bF .ret a w) (ah:bodyPost P fn bF .normal a w):eD.wp P (bodyPost P fn bF) ca a w:=by
  unfold eD.Cf at h
  split at h
  · exact h1
  · exact ah
  · cases h
theorem aj.aP {r:c_} (S:aj P n w0 M u N β r.σ a w) (k:Nat) {claims:List (Ask×Value)} (aI:fe P u N claims) {fn:Func} {bF:Ending->World->Prop} (dx:List Value)
    (K:∀aD w' ck,aj P n w0 M u N ck (r.go P n k (claims.map (·.2))).σ aD w'->bF (.returned (packed dx)) w')
    (h:(r.go P n k (claims.map (·.2))).asks=claims.map (·.1):=by kernel_rfl) (bo:(r.go P n k (claims.map (·.2))).ca.Cf=true:=by kernel_rfl)
    (bu:pK P (r.go P n k (claims.map (·.2))).σ fn.results.toList=some dx:=by kernel_rfl):dD P (bodyPost P fn bF) r a w:=
  S.go k aI (fun aD w' ck bT=>⟨WY bo (bT.ret bu (K aD w' ck bT)) (bT.Pn bu (K aD w' ck bT))⟩) h
theorem aj.bb {X:Ending} {r:c_} (S:aj P n w0 M u N β r.σ a w) (k:Nat) {claims:List (Ask×Value)} (aI:fe P u N claims) (dx:List Value) {fn:Func} (e:Ending.returned (packed dx)=X)
    (h:(r.go P n k (claims.map (·.2))).asks=claims.map (·.1):=by kernel_rfl) (bo:(r.go P n k (claims.map (·.2))).ca.Cf=true:=by kernel_rfl)
    (bu:pK P (r.go P n k (claims.map (·.2))).σ fn.results.toList=some dx:=by kernel_rfl):dD P (bodyPost P fn (fun e w'=>e=X/\bX M w0 w')) r a w:=
  S.aP k aI dx (fun aD w' ck bT=>⟨e,bT.ed⟩) h bo bu
def eD.start (fn:Func):eD:= .code (fn.body.getD .skip) []
def c_.start (fn:Func) (args:List Value):c_:=⟨.start fn,⟨w9 0 args,[]⟩,[]⟩
theorem Calls.run {f:FuncId} {fn:Func} {args:List Value} {bF:Ending->World->Prop} (M:aw) (bm:P.funcs[f]? =some fn)
    (h:∀a β,aj P fn.ntmps w M w (ga w.heap.size) β (c_.start fn args).σ a w->dD P (bodyPost P fn bF) (c_.start fn args) a w)
    (hb:fn.body.isSome=true:=by kernel_rfl) (bc:Nat.ble args.length fn.ntmps=true:=by kernel_rfl):Calls P f args.toArray w bF:=by
  cases e:fn.body with
  |none=>rw [e] at hb;cases hb
  |some c=>
    refine Calls.walk M bm e bc fun a β S=>?_
    have:=(h a β S).ok
    simp only [c_.start,eD.start,e,Option.getD_some] at this
    exact this
def eD.opsOf:eD->Array Oper
  | .ops o _ _=>o
  | .code (.region _ o _) _=>o
  |_=>#[]
def eD.idx:eD->Nat
  | .ops _ i _=>i
  |_=>0
def eD.ka:eD->Bool
  | .ops o i _=>Nat.blt i o.size
  |_=>false
def eD.KO:eD->eD
  | .ops o i k=> .ops o (i+1) k
  |ca=>ca
def c_.put (r:c_) (d:Tmp) (v:Value):c_:=⟨r.ca.KO,⟨(d,.v v)::r.σ.env,r.σ.ay⟩,[]⟩
def c_.uy (r:c_):c_:=⟨r.ca.KO,r.σ,[]⟩
def c_.tell (r:c_) (σ:bw):c_:=⟨r.ca,σ,[]⟩
def c_.Cc (r:c_) (σ:bw):c_:=⟨.ex .normal r.ca.db,σ,[]⟩
theorem b9 (h:wpOp P ca.opsOf (lS P Q ca.db) ca.idx (fun aD w'=>eD.wp P Q ca.KO aD w') a w) (hb:ca.ka=true):eD.wp P Q ca a w:=by
  cases ca with
  |ops o i k=>exact jI.op hb h
  |_=>cases hb
abbrev c_.op (P:Program) (Q:Exit->Act->World->Prop) (r:c_) (K:Act->World->Prop) (a:Act) (w:World):Prop:=wpOp P r.ca.opsOf (lS P Q r.ca.db) r.ca.idx K a w
theorem aj.is (S:aj P n w0 M u N β σ a w) {r:c_} (K:aj P n w0 M u N β (r.tell σ).σ a w->dD P Q (r.tell σ) a w):dD P Q r a w:=⟨(K S).ok⟩
def eD.Si:eD->Bool
  | .code (.loop _) _=>true
  |_=>false
def eD.body:eD->Code
  | .code (.loop c) _=>c
  |_=> .skip
def c_.Ux (r:c_) (f:Act->World->Prop) (σ:bw):c_:=⟨.code r.ca.body (.hG f::r.ca.db),σ,[]⟩
structure Nu (P:Program) (Q:Exit->Act->World->Prop) (r:c_) (f:Act->World->Prop) (a:Act) (w:World):Prop where
  ok:eD.wp P Q (.code r.ca.body (.hG f::r.ca.db)) a w
structure Ws (Inv:Nat->Act->World->Prop) (m:Nat) (f:Act->World->Prop) where
  of:∀hf a w,hf<m->Inv hf a w->f a w
theorem ek {r:c_} (Inv:Nat->Act->World->Prop) (m:Nat) (h0:Inv m a w) (round:∀(f:Act->World->Prop) m,Ws Inv m f->∀a w,Inv m a w->Nu P Q r f a w) (h:r.ca.Si=true:=by kernel_rfl):dD P Q r a w:=by
  have akB:=fun f m bm a w vI=>(round f m bm a w vI).ok
  refine⟨?_⟩
  generalize r.ca=ca at*
  unfold eD.Si at h
  split at h
  · exact alR Inv m h0 fun m a w vI=>akB _ m ⟨fun hf a w fs h=>⟨hf,fs,h⟩⟩ a w vI
  · cases h
theorem aj.rs (S:aj P n w0 M u N β σ a w) {r:c_} {f:Act->World->Prop} (K:aj P n w0 M u N β (r.Ux f σ).σ a w->dD P Q (r.Ux f σ) a w):Nu P Q r f a w:=⟨(K S).ok⟩
def eD.NI:eD->Option (Act->World->Prop)
  | .ex .normal (.hG f::_)=>some f
  |_=>none
theorem aj.ge {r:c_} (S:aj P n w0 M u N β r.σ a w) (k:Nat) {claims:List (Ask×Value)} (aI:fe P u N claims) (f:Act->World->Prop)
    (K:∀aD w' ck,aj P n w0 M u N ck (r.go P n k (claims.map (·.2))).σ aD w'->f aD w')
    (h:(r.go P n k (claims.map (·.2))).asks=claims.map (·.1):=by kernel_rfl) (hs:(r.go P n k (claims.map (·.2))).ca.NI=some f:=by kernel_rfl):dD P Q r a w:=
  S.go k aI (fun aD w' ck bT=>⟨by
    generalize (r.go P n k (claims.map (·.2))).ca=c at hs
    unfold eD.NI at hs
    split at hs
    · simp at hs;subst hs;exact K aD w' ck bT
    · cases hs⟩) h
def eD.Zm:eD->Code
  | .code c _=>c
  |_=> .skip
def eD.Sg:eD->Bool
  | .code _ _=>true
  |_=>false
def c_.aN (r:c_):c_:=⟨.code r.ca.Zm [],r.σ,[]⟩
theorem m6 {r:c_} (S:aj P n w0 M u N β r.σ a w) (R:Act->World->Prop) (h:aj P n w0 M u N β r.aN.σ a w->dD P (mx R) r.aN a w) (k:∀a w,R a w->Fq P Q r .normal a w) (hc:r.ca.Sg=true:=by kernel_rfl):dD P Q r a w:=by
  have h:=(h S).ok
  have kb:=fun a w vI=>(k a w vI).ok
  refine⟨?_⟩
  unfold c_.aN at h
  simp only at h
  generalize r.ca=ca at*
  cases ca with
  |code c db=>exact lT R h kb
  |_=>cases hc
theorem aj.r4 {r:c_} (S:aj P n w0 M u N β r.σ a w) (σ':bw) (h:aj P n w0 M u N β r.aN.σ a w->dD P (mx fun a w=>∃ck,aj P n w0 M u N ck σ' a w) r.aN a w) (k:∀a w ck,aj P n w0 M u N ck (r.Cc σ').σ a w->dD P Q (r.Cc σ') a w) (hc:r.ca.Sg=true:=by kernel_rfl):dD P Q r a w:=
  m6 S _ h (fun a w ⟨ck,h⟩=>⟨(k a w ck h).ok⟩) hc
def eD.aky:eD->Nat
  | .code (.region id _ _) _=>id
  |_=>0
def eD.Sh:eD->Bool
  | .code (.region _ _ true) _=>true
  |_=>false
theorem dj {r:c_} (h:(Code.region r.ca.aky r.ca.opsOf true).wp P (Fq P Q r) a w) (hc:r.ca.Sh=true:=by kernel_rfl):dD P Q r a w:=by
  have h:=Code.wp_mono (Q':=lS P Q r.ca.db) (fun _ _ _ h=>h.ok) h
  refine⟨?_⟩
  generalize r.ca=ca at*
  unfold eD.Sh at hc
  split at hc
  · exact h
  · cases hc
theorem aj.ex (S:aj P n w0 M u N β σ a w) {r:c_} (K:aj P n w0 M u N β (r.Cc σ).σ a w->dD P Q (r.Cc σ) a w):Fq P Q r .normal a w:=⟨(K S).ok⟩
def eD.atEnd:eD->Bool
  | .ex .normal []=>true
  |_=>false
theorem aj.e5 {r:c_} (S:aj P n w0 M u N β r.σ a w) (k:Nat) {claims:List (Ask×Value)} (aI:fe P u N claims)
    (K:∀aD w' ck,aj P n w0 M u N ck (r.go P n k (claims.map (·.2))).σ aD w'->Q .normal aD w')
    (h:(r.go P n k (claims.map (·.2))).asks=claims.map (·.1):=by kernel_rfl) (hs:(r.go P n k (claims.map (·.2))).ca.atEnd=true:=by kernel_rfl):dD P Q r a w:=
  S.go k aI (fun aD w' ck bT=>⟨by
    generalize (r.go P n k (claims.map (·.2))).ca=c at hs
    unfold eD.atEnd at hs
    split at hs
    · exact K aD w' ck bT
    · cases hs⟩) h
end
attribute [irreducible] c_.go iv
end Go.Proofs.YtmeoackmjdoecaaGreat
namespace Go.Proofs.YtmeoackmjdoecaaGreat
open Go
set_option linter.unusedVariables false
section
variable {P:Program} {n:Nat} {w0:World} {M:aw} {u:World} {N:aw} {β:Nat->Nat} {a:Act} {w:World} {Q:Exit->Act->World->Prop}
theorem aj.ct {bh:c_} {α:Type} [GT α] {f:FuncId} {dX:List Value} {d:Tmp} {r:α} (S:aj P n w0 M u N β bh.σ a w) (hc:Calls P f dX.toArray w (dZ aa w r)) (K:∀aD w' aH q F,aj P n w0 M w' aH β (bh.put d (GT.val r q)).σ aD w'->(∀b,N b->aH b/\w'.heap[b]? =u.heap[b]?)->ai w0 M w' aH F r q->J N F->dD P Q (bh.put d (GT.val r q)) aD w') (hcall:jr P n bh.ca.opsOf bh.ca.idx bh.σ=some (f,dX,d):=by kernel_rfl) (hd:Nat.blt d n=true:=by kernel_rfl) (bU:bh.ca.ka=true:=by kernel_rfl):dD P Q bh a w:=
  ⟨b9 (aj.Ow S (hc:=hc) (hcall:=hcall) (hd:=hd) (K:=fun _ _ _ _ _ h0 h1 ah aE=>(K _ _ _ _ _ h0 h1 ah aE).ok)) bU⟩
theorem aj.fk {bh:c_} {α gi:Type} [GT α] [GT gi] {f:FuncId} {dX:List Value} {d:Tmp} {r:α} {r':gi} (S:aj P n w0 M u N β bh.σ a w) (hc:Calls P f dX.toArray w (fG aa w r r')) (K:∀aD w' aH q fX F b1,aj P n w0 M w' aH β (bh.put d (.tuple #[GT.val r q,GT.val r' fX])).σ aD w'->(∀b,N b->aH b/\w'.heap[b]? =u.heap[b]?)->ai w0 M w' aH F r q->ai w0 M w' aH b1 r' fX->J N F->J N b1->J F b1->dD P Q (bh.put d (.tuple #[GT.val r q,GT.val r' fX])) aD w') (hcall:jr P n bh.ca.opsOf bh.ca.idx bh.σ=some (f,dX,d):=by kernel_rfl) (hd:Nat.blt d n=true:=by kernel_rfl) (bU:bh.ca.ka=true:=by kernel_rfl):dD P Q bh a w:=
  ⟨b9 (aj.call2 S (hc:=hc) (hcall:=hcall) (hd:=hd) (K:=fun _ _ _ _ _ _ _ h0 h1 ah aE b2 cf dU=>(K _ _ _ _ _ _ _ h0 h1 ah aE b2 cf dU).ok)) bU⟩
theorem aj.zb {bh:c_} {α:Type} [GT α] {f:FuncId} {dX:List Value} {d:Tmp} {r:α} {r':Int} {r'':Bool} (S:aj P n w0 M u N β bh.σ a w) (hc:Calls P f dX.toArray w (qO aa w r r' r'')) (K:∀aD w' aH q F,aj P n w0 M w' aH β (bh.put d (.tuple #[GT.val r q,R r',B r''])).σ aD w'->(∀b,N b->aH b/\w'.heap[b]? =u.heap[b]?)->ai w0 M w' aH F r q->J N F->aq r'->dD P Q (bh.put d (.tuple #[GT.val r q,R r',B r''])) aD w') (hcall:jr P n bh.ca.opsOf bh.ca.idx bh.σ=some (f,dX,d):=by kernel_rfl) (hd:Nat.blt d n=true:=by kernel_rfl) (bU:bh.ca.ka=true:=by kernel_rfl):dD P Q bh a w:=
  ⟨b9 (aj.call3 S (hc:=hc) (hcall:=hcall) (hd:=hd) (K:=fun _ _ _ _ _ h0 h1 ah aE b2=>(K _ _ _ _ _ h0 h1 ah aE b2).ok)) bU⟩
theorem aj.o0 {bh:c_} {α:Type} [GT α] {bF:GT.Ptr α->GT.Ptr α->Prop} {F:aw} {x:α} {cA:af α} {f:FuncId} {dX:List Value} {d:Tmp} {v:Value} {gI:α} (S:aj P n w0 M u N β bh.σ a w) (o:ai w0 M u N F [x] cA) (hc:Calls P f dX.toArray w (tf bF F cA w v gI)) (K:∀dO w' aH cp b1,aj P n w0 M w' aH β (bh.put d v).σ dO w'->(∀b,N b->¬F b->aH b/\w'.heap[b]? =u.heap[b]?)->ai w0 M w' aH b1 [gI] ((cA.1,cp):af α)->(∀G:aw,J G F->(∀b,G b->N b)->J G b1)->bF (cA.2 0) (cp 0)->dD P Q (bh.put d v) dO w') (hcall:jr P n bh.ca.opsOf bh.ca.idx bh.σ=some (f,dX,d):=by kernel_rfl) (hd:Nat.blt d n=true:=by kernel_rfl) (bU:bh.ca.ka=true:=by kernel_rfl):dD P Q bh a w:=
  ⟨b9 (aj.Zb S (o:=o) (hc:=hc) (hcall:=hcall) (hd:=hd) (K:=fun _ _ _ _ _ h0 h1 ah aE b2=>(K _ _ _ _ _ h0 h1 ah aE b2).ok)) bU⟩
theorem aj.No {bh:c_} {α gi ki:Type} [GT α] [GT gi] [GT ki] {F:aw} {KH:ki} {cA:af ki} {f:FuncId} {dX:List Value} {d:Tmp} {r:α} {r':gi} {n':ki} (S:aj P n w0 M u N β bh.σ a w) (o:ai w0 M u N F [KH] cA) (hc:Calls P f dX.toArray w (ze F cA w r r' n')) (K:∀aD w' aH q fX F1 cp,aj P n w0 M w' aH β (bh.put d (.tuple #[GT.val r q,GT.val r' fX])).σ aD w'->(∀b,N b->¬F b->aH b/\w'.heap[b]? =u.heap[b]?)->ai w0 M w' aH F1 r q->ai w0 M w' aH F [n'] ((cA.1,cp):af ki)->J N F1->dD P Q (bh.put d (.tuple #[GT.val r q,GT.val r' fX])) aD w') (hcall:jr P n bh.ca.opsOf bh.ca.idx bh.σ=some (f,dX,d):=by kernel_rfl) (hd:Nat.blt d n=true:=by kernel_rfl) (bU:bh.ca.ka=true:=by kernel_rfl):dD P Q bh a w:=
  ⟨b9 (aj.Za S (o:=o) (hc:=hc) (hcall:=hcall) (hd:=hd) (K:=fun _ _ _ _ _ _ _ h0 h1 ah aE b2=>(K _ _ _ _ _ _ _ h0 h1 ah aE b2).ok)) bU⟩
theorem aj.rT {bh:c_} {α:Type} [GT α] {m by':Nat} {d:Tmp} (S:aj P n w0 M u N β bh.σ a w) (hb:by'*m<=281474976710656) (hm:m<=bz) (K:∀aD w' aH q F,aj P n w0 M w' aH β (bh.put d (ab m q.1)).σ aD w'->(∀b,N b->aH b/\w'.heap[b]? =u.heap[b]?)->
      ai w0 M w' aH F (List.replicate m (GT.dE:α)) q->J N F->dD P Q (bh.put d (ab m q.1)) aD w') (hop:Kx P n bh.ca.opsOf bh.ca.idx bh.σ=some (R m,GT.cells (GT.dE:α) GT.bL,by',GT.width α,d):=by kernel_rfl) (bU:bh.ca.ka=true:=by kernel_rfl):dD P Q bh a w:=
  ⟨b9 (aj.make S (hop:=hop) (hb:=hb) (hm:=hm) (K:=fun _ _ _ _ _ h0 h1 ah aE=>(K _ _ _ _ _ h0 h1 ah aE).ok)) bU⟩
theorem aj.gx {bh:c_} {α:Type} [GT α] {d:Tmp} (S:aj P n w0 M u N β bh.σ a w) (K:∀aD w' aH q F,aj P n w0 M w' aH β (bh.put d (ab 0 q.1)).σ aD w'->(∀b,N b->aH b/\w'.heap[b]? =u.heap[b]?)->
      ai w0 M w' aH F ([]:List α) q->J N F->dD P Q (bh.put d (ab 0 q.1)) aD w') (hop:tl P n bh.ca.opsOf bh.ca.idx bh.σ=some ([],0,d):=by kernel_rfl) (bU:bh.ca.ka=true:=by kernel_rfl):dD P Q bh a w:=
  ⟨b9 (aj.jq S (hop:=hop) (K:=fun _ _ _ _ _ h0 h1 ah aE=>(K _ _ _ _ _ h0 h1 ah aE).ok)) bU⟩
theorem aj.hB {bh:c_} {α:Type} [GT α] {x:α} {p:GT.Ptr α} {F:aw} {d:Tmp} (S:aj P n w0 M u N β bh.σ a w) (hx:GT.own bz F u x p) (hN:∀b,F b->N b) (hY:∀b,F b->w0.heap.size<=b\/M b) (K:∀aD w' aH q b1,aj P n w0 M w' aH β (bh.put d (ab 1 q.1)).σ aD w'->(∀b,N b->aH b/\w'.heap[b]? =u.heap[b]?)->
      ai w0 M w' aH b1 [x] q->(∀G:aw,J G F->(∀b,G b->N b)->J G b1)->dD P Q (bh.put d (ab 1 q.1)) aD w') (hop:tl P n bh.ca.opsOf bh.ca.idx bh.σ=some (GT.cells x p,1,d):=by kernel_rfl) (bU:bh.ca.ka=true:=by kernel_rfl):dD P Q bh a w:=
  ⟨b9 (aj.pT S (hx:=hx) (hN:=hN) (hY:=hY) (hop:=hop) (K:=fun _ _ _ _ _ h0 h1 ah aE=>(K _ _ _ _ _ h0 h1 ah aE).ok)) bU⟩
theorem aj.qG {bh:c_} {α:Type} [GT α] {xs aU:List α} {p q:af α} {F Fy:aw} {by' lx ly:Nat} {d:Tmp} (S:aj P n w0 M u N β bh.σ a w) (hx:ai w0 M u N F xs p) (hy:ai w0 M u N Fy aU q) (hd:J F Fy) (hlx:lx=xs.length) (hly:ly=aU.length) (hl:xs.length+aU.length<=bz) (K:∀aD w' aH r b1,aj P n w0 M w' aH β (bh.put d (ab (xs++aU).length r.1)).σ aD w'->(∀b,N b->¬F b->aH b/\w'.heap[b]? =u.heap[b]?)->
      ai w0 M w' aH b1 (xs++aU) r->(∀G:aw,J G F->J G Fy->(∀b,G b->N b)->J G b1)->dD P Q (bh.put d (ab (xs++aU).length r.1)) aD w') (hop:r0 P n bh.ca.opsOf bh.ca.idx bh.σ=some (ab lx p.1,ab ly q.1,GT.width α,by',d):=by kernel_rfl) (bU:bh.ca.ka=true:=by kernel_rfl):dD P Q bh a w:=
  ⟨b9 (aj.vf S (hx:=hx) (hy:=hy) (hd:=hd) (hlx:=hlx) (hly:=hly) (hop:=hop) (hl:=hl) (K:=fun _ _ _ _ _ h0 h1 ah aE=>(K _ _ _ _ _ h0 h1 ah aE).ok)) bU⟩
theorem aj.kj {bh:c_} {α:Type} [GT α] {xs aU:List α} {p q:af α} {F:aw} {by' lx ly:Nat} {d:Tmp} (S:aj P n w0 M u N β bh.σ a w) (hx:ai w0 M u N F xs p) (hyr:o1 u N aU q) (hfl:∀(x:α) (r:GT.Ptr α),GT.rd bz N u x r->GT.own bz aa u x r) (hlx:lx=xs.length) (hly:ly=aU.length) (hl:xs.length+aU.length<=bz) (K:∀aD w' aH r b1,aj P n w0 M w' aH β (bh.put d (ab (xs++aU).length r.1)).σ aD w'->(∀b,N b->¬F b->aH b/\w'.heap[b]? =u.heap[b]?)->
      ai w0 M w' aH b1 (xs++aU) r->(∀G:aw,J G F->(∀b,G b->N b)->J G b1)->dD P Q (bh.put d (ab (xs++aU).length r.1)) aD w') (hop:r0 P n bh.ca.opsOf bh.ca.idx bh.σ=some (ab lx p.1,ab ly q.1,GT.width α,by',d):=by kernel_rfl) (bU:bh.ca.ka=true:=by kernel_rfl):dD P Q bh a w:=
  ⟨b9 (aj.Cd S (hx:=hx) (hyr:=hyr) (hfl:=hfl) (hlx:=hlx) (hly:=hly) (hop:=hop) (hl:=hl) (K:=fun _ _ _ _ _ h0 h1 ah aE=>(K _ _ _ _ _ h0 h1 ah aE).ok)) bU⟩
theorem aj.nH {bh:c_} {α:Type} [GT α] {aU:List α} {p q:af α} {F:aw} {by' lx ly:Nat} {d:Tmp} (S:aj P n w0 M u N β bh.σ a w) (hx:ai w0 M u N F ([]:List α) p) (hyr:o1 u N aU q) (hfl:∀(x:α) (r:GT.Ptr α),GT.rd bz N u x r->GT.own bz aa u x r) (hly:ly=aU.length) (K:∀aD w' aH r b1,aj P n w0 M w' aH β (bh.put d (ab aU.length r.1)).σ aD w'->(∀b,N b->¬F b->aH b/\w'.heap[b]? =u.heap[b]?)->
      ai w0 M w' aH b1 aU r->(∀G:aw,J G F->(∀b,G b->N b)->J G b1)->dD P Q (bh.put d (ab aU.length r.1)) aD w') (hlx:lx=0:=by rfl) (hop:r0 P n bh.ca.opsOf bh.ca.idx bh.σ=some (ab lx p.1,ab ly q.1,GT.width α,by',d):=by kernel_rfl) (bU:bh.ca.ka=true:=by kernel_rfl):dD P Q bh a w:=
  ⟨b9 (aj.pR S (hx:=hx) (hyr:=hyr) (hfl:=hfl) (hly:=hly) (hlx:=hlx) (hop:=hop) (K:=fun _ _ _ _ _ h0 h1 ah aE=>(K _ _ _ _ _ h0 h1 ah aE).ok)) bU⟩
theorem aj.WJ {bh:c_} {α:Type} [GT α] {xs:List α} {p:af α} {F Fy:aw} {k j off:Nat} {t:TypeId} {v:Value} {y:α} {q:GT.Ptr α} (S:aj P n w0 M u N β bh.σ a w) (hx:ai w0 M u N F xs p) (hy:∀G,GT.own bz G u (el xs k) (p.2 k)->(∀b,G b->F b)->∃hT,GT.own bz hT u y q/\∀b,hT b->G b\/Fy b) (hd:J F Fy) (hyN:∀b,Fy b->N b) (hyY:∀b,Fy b->w0.heap.size<=b\/M b) (K:∀w' aH b1 cp,aj P n w0 M w' aH β bh.uy.σ a w'->(∀b,N b->¬F b->aH b/\w'.heap[b]? =u.heap[b]?)->
      ai w0 M w' aH b1 (xs.set k y) (p.1,cp)->(∀G:aw,J G F->J G Fy->(∀b,G b->N b)->J G b1)->(∀b,b1 b->F b\/Fy b)->(∀b,N b->aH b)->dD P Q bh.uy a w') (hop:qC bh.ca.opsOf bh.ca.idx bh.σ=some (t,aM p.1.b off,v):=by kernel_rfl) (hoff:off=p.1.off+k*GT.width α+j:=by kernel_rfl) (hk:k<xs.length:=by omega) (hs:jl P t=some v.cells.toList.length:=by kernel_rfl) (hpl:v.cells.toList.all (·.oneCell')=true:=by kernel_rfl) (hjw:Nat.ble (j+v.cells.toList.length) (GT.width α)=true:=by kernel_rfl) (hc:GT.cells y q=(GT.cells (el xs k) (p.2 k)).take j++v.cells.toList++(GT.cells (el xs k) (p.2 k)).drop (j+v.cells.toList.length):=by kernel_rfl) (bU:bh.ca.ka=true:=by kernel_rfl):dD P Q bh a w:=
  ⟨b9 (aj.EW S (hx:=hx) (hy:=hy) (hd:=hd) (hyN:=hyN) (hyY:=hyY) (hop:=hop) (hoff:=hoff) (hk:=hk) (hs:=hs) (hpl:=hpl) (hjw:=hjw) (hc:=hc) (K:=fun _ _ _ _ h0 h1 ah aE b2 cf=>(K _ _ _ _ h0 h1 ah aE b2 cf).ok)) bU⟩
theorem aj.kV {bh:c_} {α:Type} [GT α] {xs:List α} {p:af α} {F:aw} {k j off:Nat} {t:TypeId} {v:Value} {y:α} {q:GT.Ptr α} (S:aj P n w0 M u N β bh.σ a w) (hx:ai w0 M u N F xs p) (hy:∀G,GT.own bz G u (el xs k) (p.2 k)->(∀b,G b->F b)->∃hT,GT.own bz hT u y q/\∀b,hT b->G b\/aa b) (K:∀w' aH b1 cp,aj P n w0 M w' aH β bh.uy.σ a w'->(∀b,N b->¬F b->aH b/\w'.heap[b]? =u.heap[b]?)->
      ai w0 M w' aH b1 (xs.set k y) (p.1,cp)->(∀G:aw,J G F->J G aa->(∀b,G b->N b)->J G b1)->(∀b,b1 b->F b\/aa b)->(∀b,N b->aH b)->dD P Q bh.uy a w') (hop:qC bh.ca.opsOf bh.ca.idx bh.σ=some (t,aM p.1.b off,v):=by kernel_rfl) (hoff:off=p.1.off+k*GT.width α+j:=by kernel_rfl) (hk:k<xs.length:=by omega) (hs:jl P t=some v.cells.toList.length:=by kernel_rfl) (hpl:v.cells.toList.all (·.oneCell')=true:=by kernel_rfl) (hjw:Nat.ble (j+v.cells.toList.length) (GT.width α)=true:=by kernel_rfl) (hc:GT.cells y q=(GT.cells (el xs k) (p.2 k)).take j++v.cells.toList++(GT.cells (el xs k) (p.2 k)).drop (j+v.cells.toList.length):=by kernel_rfl) (bU:bh.ca.ka=true:=by kernel_rfl):dD P Q bh a w:=
  ⟨b9 (aj.BH S (hx:=hx) (hy:=hy) (hop:=hop) (hoff:=hoff) (hk:=hk) (hs:=hs) (hpl:=hpl) (hjw:=hjw) (hc:=hc) (K:=fun _ _ _ _ h0 h1 ah aE b2 cf=>(K _ _ _ _ h0 h1 ah aE b2 cf).ok)) bU⟩
theorem aj.e9 {bh:c_} {α:Type} [GT α] {xs:List α} {p:af α} {F Fy:aw} {k off:Nat} {t:TypeId} {y:α} {q:GT.Ptr α} (S:aj P n w0 M u N β bh.σ a w) (hx:ai w0 M u N F xs p) (hy:ai w0 M u N Fy y q) (hd:J F Fy) (K:∀w' aH b1 cp,aj P n w0 M w' aH β bh.uy.σ a w'->(∀b,N b->¬F b->aH b/\w'.heap[b]? =u.heap[b]?)->
      ai w0 M w' aH b1 (xs.set k y) (p.1,cp)->(∀G:aw,J G F->J G Fy->(∀b,G b->N b)->J G b1)->(∀b,b1 b->F b\/Fy b)->(∀b,N b->aH b)->dD P Q bh.uy a w') (hop:qC bh.ca.opsOf bh.ca.idx bh.σ=some (t,aM p.1.b off,GT.val y q):=by kernel_rfl) (hoff:off=p.1.off+k*GT.width α+0:=by kernel_rfl) (hk:k<xs.length:=by omega) (hs:jl P t=some (GT.val y q).cells.toList.length:=by kernel_rfl) (hpl:(GT.val y q).cells.toList.all (·.oneCell')=true:=by kernel_rfl) (hjw:Nat.ble (0+(GT.val y q).cells.toList.length) (GT.width α)=true:=by kernel_rfl) (hc:GT.cells y q=(GT.cells (el xs k) (p.2 k)).take 0++(GT.val y q).cells.toList++(GT.cells (el xs k) (p.2 k)).drop (0+(GT.val y q).cells.toList.length):=by kernel_rfl) (bU:bh.ca.ka=true:=by kernel_rfl):dD P Q bh a w:=
  ⟨b9 (aj.n4 S (hx:=hx) (hy:=hy) (hd:=hd) (hop:=hop) (hoff:=hoff) (hk:=hk) (hs:=hs) (hpl:=hpl) (hjw:=hjw) (hc:=hc) (K:=fun _ _ _ _ h0 h1 ah aE b2 cf=>(K _ _ _ _ h0 h1 ah aE b2 cf).ok)) bU⟩
theorem aj.WK {bh:c_} {α:Type} [GT α] {xs:List α} {p:af α} {F Fy:aw} {k j off:Nat} {t:TypeId} {v:Value} {y:α} {q:GT.Ptr α} (S:aj P n w0 M u N β bh.σ a w) (hx:ai w0 M u N F xs p) (hk:k<xs.length) (hjw:j+v.cells.toList.length<=GT.width α) (hy:∀G,GT.own bz G u (el xs k) (p.2 k)->(∀b,G b->F b)->∃hT,GT.own bz hT u y q/\∀b,hT b->G b\/Fy b) (hd:J F Fy) (hyN:∀b,Fy b->N b) (hyY:∀b,Fy b->w0.heap.size<=b\/M b) (K:∀w' aH b1,aj P n w0 M w' aH β bh.uy.σ a w'->(∀b,N b->¬F b->aH b/\w'.heap[b]? =u.heap[b]?)->
      ai w0 M w' aH b1 (xs.set k y) ((p.1,fun i=>if i=k then q else p.2 i):af α)->(∀G:aw,J G F->J G Fy->(∀b,G b->N b)->J G b1)->(∀b,b1 b->F b\/Fy b)->(∀b,N b->aH b)->dD P Q bh.uy a w') (hop:qC bh.ca.opsOf bh.ca.idx bh.σ=some (t,aM p.1.b off,v):=by kernel_rfl) (hoff:off=p.1.off+k*GT.width α+j:=by kernel_rfl) (hs:jl P t=some v.cells.toList.length:=by kernel_rfl) (hpl:v.cells.toList.all (·.oneCell')=true:=by kernel_rfl) (hc:GT.cells y q=(GT.cells (el xs k) (p.2 k)).take j++v.cells.toList++(GT.cells (el xs k) (p.2 k)).drop (j+v.cells.toList.length):=by kernel_rfl) (bU:bh.ca.ka=true:=by kernel_rfl):dD P Q bh a w:=
  ⟨b9 (aj.qz S (hx:=hx) (hop:=hop) (hoff:=hoff) (hk:=hk) (hs:=hs) (hpl:=hpl) (hjw:=hjw) (hc:=hc) (hy:=hy) (hd:=hd) (hyN:=hyN) (hyY:=hyY) (K:=fun _ _ _ h0 h1 ah aE b2 cf=>(K _ _ _ h0 h1 ah aE b2 cf).ok)) bU⟩
def c_.nO (r:c_) (k b:Nat):c_:=⟨r.ca,r.σ.nO k b,[]⟩
theorem aj.h5 {bh:c_} (S:aj P n w0 M u N β bh.σ a w) {α:Type} [GT α] (k:Nat) (x:α) (p:GT.Ptr α) (hx:GT.own bz aa w x p)
    (K:∀(ck:Nat->Nat) (aH:aw) (b:Nat) (F:aw),aj P n w0 M w aH ck (bh.nO k b).σ a w->(∀b,N b->aH b/\w.heap[b]? =u.heap[b]?)->ai w0 M w aH F [x] (aB b p)->J N F->dD P Q (bh.nO k b) a w)
    (hk:bh.σ.ay[k]? =some (GT.cells x p):=by kernel_rfl):dD P Q bh a w:=⟨S.nO k x p hx (fun ck aH b F h0 h1 ah aE=>(K ck aH b F h0 h1 ah aE).ok) hk⟩
theorem aj.w1 {bh:c_} (S:aj P n w0 M u N β bh.σ a w) {α:Type} [GT α] (k:Nat) {x:α} {p:GT.Ptr α} {u9:aw} (hx:ai w0 M u N u9 x p)
    (K:∀(ck:Nat->Nat) (aH:aw) (b:Nat) (F:aw),aj P n w0 M w aH ck (bh.nO k b).σ a w->(∀b,N b->aH b/\w.heap[b]? =u.heap[b]?)->ai w0 M w aH F [x] (aB b p)->(∀H:aw,J H u9->(∀b,H b->N b)->J H F)->dD P Q (bh.nO k b) a w)
    (hk:bh.σ.ay[k]? =some (GT.cells x p):=by kernel_rfl):dD P Q bh a w:=⟨S.abg k hx (fun ck aH b F h0 h1 ah aE=>(K ck aH b F h0 h1 ah aE).ok) hk⟩
end
end Go.Proofs.YtmeoackmjdoecaaGreat
namespace Go.Proofs.YtmeoackmjdoecaaGreat
open Go
def tC (x:Int):Int:=(Lib.bitLen x.toNat:Int)
def j4 (p:Int):Int:=if aS p 0 255=true then tC p-1 else-1
def anA (p n:Nat):Bool:=mg (qA (p:Int) (n:Int)) 1==1
theorem alF:(List.range 256).all (fun p=>decide (Lib.bitLen p<=8))=true:=by kernel_rfl
theorem alz:(List.range 256).all (fun p=>Lib.bitLen p==0||(IntKind.i64.wrap ((p:Int)-oS 1 ((Lib.bitLen p:Int)-1))==v_ (p:Int) (oS 1 ((Lib.bitLen p:Int)-1))))=true:=by kernel_rfl
theorem alE {p:Int} (a2:aS p 0 255=false):j4 p=-1:=by
  unfold j4;rw [if_neg (by simp [a2])]
theorem Fc (p:Int):-1<=j4 p/\j4 p<=7:=by
  unfold j4
  split
  · rename_i a2
    have h1:=cM a2
    have:=List.all_eq_true.1 alF p.toNat (List.mem_range.2 (by omega))
    have:=of_decide_eq_true this
    unfold tC
    omega
  · omega
def fL (p:Int):Int×Int×Bool:=if j4 p<0 then(p,-1,false) else(v_ p (oS 1 (j4 p)),j4 p,true)
theorem U4 {p:Int} (h:¬j4 p<0):IntKind.i64.wrap (p-oS 1 (j4 p))=v_ p (oS 1 (j4 p)):=by
  unfold j4 at h ⊢
  by_cases a2:aS p 0 255=true
  · rw [if_pos a2] at h ⊢
    have h1:=cM a2
    obtain⟨q,rfl⟩:=Int.eq_ofNat_of_zero_le h1.1
    have hx:=List.all_eq_true.1 alz q (List.mem_range.2 (by omega))
    have fB:(Lib.bitLen q==0)=false:=by
      rw [beq_eq_false_iff_ne]
      intro e
      apply h
      show(Lib.bitLen q:Int)-1<0
      omega
    rw [fB] at hx
    simp only [Bool.false_or,beq_iff_eq] at hx
    exact hx
  · rw [if_neg a2] at h
    exact absurd (by decide) h
def iL (b:a9):a9×Int×Bool:=
  if hK b=true/\(fL b.av).2.2=true then(⟨b.mem,b.U,b.outs,(fL b.av).1⟩,(fL b.av).2.1,true) else(b,-1,false)
theorem U3 {p:Int} (h:aq p):aq (fL p).1:=by
  unfold fL
  split
  · exact h
  · exact aga _ _
theorem aly {p:Int}:aq (fL p).2.1:=by
  unfold fL
  have:=Fc p
  split
  · exact⟨by simp only;omega,by simp only;omega⟩
  · exact⟨by simp only;omega,by simp only;omega⟩
theorem bitLenAux_le:∀(f x:Nat),Lib.bitLenAux f x<=f
  |
    0,_=>Nat.le_refl _
  |f+1,x=>by
    unfold Lib.bitLenAux
    split
    · omega
    · have:=bitLenAux_le f (x / 2)
      omega
theorem Xf (x:Int):0<=tC x/\tC x<=64:=by
  have:=bitLenAux_le 64 x.toNat
  unfold tC Lib.bitLen
  omega
theorem Xc {b:a9} (h:hK b=true):iL b=(⟨b.mem,b.U,b.outs,(fL b.av).1⟩,(fL b.av).2.1,(fL b.av).2.2):=by
  unfold iL
  split
  · rename_i e
    rw [e.2]
  · rename_i e
    have ah:(fL b.av).2.2=false:=by
      cases aI:(fL b.av).2.2 with
      |false=>rfl
      |true=>exact absurd ⟨h,aI⟩ e
    unfold fL at ah ⊢
    split at ah
    · rename_i fB
      rw [if_pos fB]
    · cases ah
end Go.Proofs.YtmeoackmjdoecaaGreat
namespace Go.Proofs.YtmeoackmjdoecaaGreat
open Go
def er (b:a9):a9×Bool:=((iL b).1,(iL b).2.2)
def o5 (h:ad) (m n:Int):Int:=if dg h=true/\0<=m/\m<h.I.length then(iL (aG h m)).2.1 else n
def h6 (h:ad) (m:Int):ad×Int×Bool:=((bP h m (er (aG h m))).1,o5 h m (-1),(bP h m (er (aG h m))).2)
end Go.Proofs.YtmeoackmjdoecaaGreat
namespace Go.Proofs.YtmeoackmjdoecaaGreat
open Go
set_option linter.unusedVariables false
set_option linter.unusedSimpArgs false
def r9 (k:bO) (inner:List aA) (page:Int):bO:=(kH inner page).foldl gL k
def ng (t:List bO) (g:List az) (page:Int):Nat->List bO
  |0=>t
  |k+1=>(ng t g page k).set k (r9 (el t k) (el g k).live page)
theorem BT (t:List bO) (g:List az) (page:Int) (k:Nat):(ng t g page k).length=t.length:=by
  induction k with
  |zero=>rfl
  |succ k gQ=>rw [ng,List.length_set,gQ]
theorem alv (t:List bO) (g:List az) (page:Int) {k j:Nat} (h:k<=j):el (ng t g page k) j=el t j:=by
  induction k with
  |zero=>rfl
  |succ k gQ=>
    rw [ng]
    have e:=gQ (by omega)
    unfold el at e ⊢
    rw [List.getD_eq_getElem?_getD,List.getElem?_set_ne (by omega),←List.getD_eq_getElem?_getD]
    exact e
def q7 (e:a0) (host:Int):Bool:=e.host==host
def oh (b:List a0) (host:Int):List a0:=j5 b fun e=>q7 e host
def m_ (b:List a0) (p:Int):List a0:=if p=-1 then b else oh b p
theorem Pt {b:List a0} {p:Int} (h:p=-1):m_ b p=b:=if_pos h
theorem Pv {b:List a0} {p:Int} (h:¬p=-1):m_ b p=oh b p:=if_neg h
def oi (h:ad) (m page:Int) (s:aA):ad:=
  ⟨h.mem,h.I.set m.toNat {el h.I m.toNat with tables:=ng (el h.I m.toNat).tables (el h.I m.toNat).U page (el h.I m.toNat).U.length},m_ h.buf s.page,m_ h.ar s.page⟩
def jM (h:ad) (m page:Int) (s:aA):ad:=
  ⟨h.mem,h.I.set m.toNat {el h.I m.toNat with tables:=ng (el h.I m.toNat).tables (el h.I m.toNat).U page (el h.I m.toNat).U.length,outer:=(el h.I m.toNat).outer.set page.toNat s},
    m_ h.buf (el (el h.I m.toNat).outer page.toNat).page,m_ h.ar (el (el h.I m.toNat).outer page.toNat).page⟩
def je (h:ad) (m:Int) (x:aZ):ad:=⟨h.mem,h.I.set m.toNat x,h.buf,h.ar⟩
def eF (h:ad) (m page:Int):Bool:=q6 h m&&aS page 0 7
theorem KG {x:aZ} (h:iP x=true):x.outer.length=8/\x.out.length=8/\x.bj.length=8/\x.tables.length=x.U.length:=by
  have h1:=(ux h).1
  simp only [iP,p5,Bool.and_eq_true,decide_eq_true_eq] at h
  exact⟨h1,h.1.1.1.1.2,h.1.1.1.2,h.1.1.1.1.1.1.2⟩
theorem nq {h:ad} {m page:Int} (e:eF h m page=true):(0<=m/\m<h.I.length)/\(0<=page/\page<=7)/\(el h.I m.toNat).outer.length=8/\(el h.I m.toNat).out.length=8/\(el h.I m.toNat).bj.length=8/\(el h.I m.toNat).tables.length=(el h.I m.toNat).U.length:=by
  simp only [eF,Bool.and_eq_true] at e
  have h1:=Eh e.1
  exact⟨h1.2,cM e.2,KG (su h1.1 (by omega))⟩
theorem ad4 {h:ad} {m page:Int} (e:eF h m page=true):(el (el h.I m.toNat).outer page.toNat)=⟨-1,0⟩\/(0<=(el (el h.I m.toNat).outer page.toNat).page/\(el (el h.I m.toNat).outer page.toNat).page<=11):=by
  have ah:=nq e
  simp only [eF,Bool.and_eq_true] at e
  have h1:=Eh e.1
  have aE:=BS (ux (su h1.1 (k:=m.toNat) (by omega))).2 (k:=page.toNat) (by omega)
  simp only [fz,Bool.or_eq_true,Bool.and_eq_true,decide_eq_true_eq] at aE
  rcases aE with aE|aE
  · exact .inl aE
  · exact .inr (cM aE.1.2)
def aon (h:ad) (m page:Int):aA:=el (el h.I m.toNat).outer page.toNat
theorem Mb {h:ad} {m page:Int} (e:eF h m page=true) (h1:(el (el h.I m.toNat).outer page.toNat).page=-1):el (el h.I m.toNat).outer page.toNat=⟨-1,0⟩:=by
  rcases ad4 e with ah|ah
  · exact ah
  · omega
theorem DQ {Y h:ad} {m page:Int} {s:aA} (e:Y=oi h m page s) (hm:m.toNat<h.I.length):Y.I.length=h.I.length/\(el Y.I m.toNat).outer.length=(el h.I m.toNat).outer.length/\(el Y.I m.toNat).out.length=(el h.I m.toNat).out.length/\(el Y.I m.toNat).bj.length=(el h.I m.toNat).bj.length/\(el Y.I m.toNat).U.length=(el h.I m.toNat).U.length/\(el Y.I m.toNat).tables.length=(el h.I m.toNat).tables.length:=by
  subst e
  unfold oi
  simp only [fg hm,List.length_set,BT,and_self]
def mF (h:ad) (m page:Int):ad×Bool:=
  if eF h m page=true then
    (if(el (el h.I m.toNat).outer page.toNat).page=-1 then je h m {el h.I m.toNat with bj:=(el h.I m.toNat).bj.set page.toNat false}
     else jM (je h m {el h.I m.toNat with bj:=(el h.I m.toNat).bj.set page.toNat false}) m page ⟨(el (el h.I m.toNat).outer page.toNat).page,1⟩,true)
  else(h,false)
def iA (h:ad) (m page:Int):ad:=
  jM (je h m {el h.I m.toNat with out:=(el h.I m.toNat).out.set page.toNat (gl h.mem (el (el h.I m.toNat).outer page.toNat).page)}) m page ⟨-1,0⟩
def kF (h:ad) (m page:Int):ad×Bool:=
  if eF h m page=true/\¬(el (el h.I m.toNat).outer page.toNat).page=-1 then(iA h m page,true) else(h,false)
end Go.Proofs.YtmeoackmjdoecaaGreat
namespace Go.Proofs.YtmeoackmjdoecaaGreat
open Go
set_option linter.unusedVariables false
set_option linter.unusedSimpArgs false
theorem ai4 {h:ad} {m page:Int} (e:eF h m page=false):kF h m page=(h,false):=by
  unfold kF;rw [if_neg (fun h1=>by rw [e] at h1;cases h1.1)]
theorem yE {h:ad} {m page:Int} (e:eF h m page=true) (h1:(el (el h.I m.toNat).outer page.toNat).page=-1\/el (el h.I m.toNat).outer page.toNat=⟨-1,0⟩):kF h m page=(h,false):=by
  unfold kF;rw [if_neg (fun ah=>ah.2 (h1.elim id fun aE=>by rw [aE]))]
theorem yF {h:ad} {m page:Int} (e:eF h m page=true) (h1:¬(el (el h.I m.toNat).outer page.toNat).page=-1\/¬el (el h.I m.toNat).outer page.toNat=⟨-1,0⟩):kF h m page=(iA h m page,true):=by
  unfold kF;rw [if_pos ⟨e,h1.elim id fun aE b2=>aE (Mb e b2)⟩]
def jQ (p:Int) (l:List aA):Nat:=(l.filter fun s=>decide (s.page=p)).length
def iG (p:Int) (ms:List aZ):Nat:=(ms.map fun x=>jQ p x.outer).sum
def one (c:Prop) [Decidable c]:Nat:=if c then 1 else 0
theorem s6 (p:Int) (s:aA) (r:List aA):jQ p (s::r)=one (s.page=p)+jQ p r:=by
  unfold jQ one
  by_cases h:s.page=p
  · rw [List.filter_cons_of_pos (by simpa using h),List.length_cons,if_pos h];omega
  · rw [List.filter_cons_of_neg (by simpa using h),if_neg h];omega
theorem sR (p:Int) (x:aZ) (r:List aZ):iG p (x::r)=jQ p x.outer+iG p r:=by simp [iG]
theorem abc (l:List aA):l.foldl n6 none=none:=by
  induction l with
  |nil=>rfl
  |cons s r gQ=>rw [List.foldl_cons];exact gQ
theorem Py (l:List aZ):l.foldl pO none=none:=by
  induction l with
  |nil=>rfl
  |cons s r gQ=>rw [List.foldl_cons];exact gQ
theorem BN {p:Int} (a2:0<=p):∀(l:List aA) {u v:List Bool},p.toNat<u.length->l.foldl n6 (some u)=some v->v.length=u.length/\jQ p l+one (el u p.toNat=true)=one (el v p.toNat=true)
  |
    [],u,v,hu,h=>by cases h;exact⟨rfl,by simp [jQ]⟩
  |s::r,u,v,hu,h=>by
    rw [List.foldl_cons] at h
    rw [s6]
    by_cases h1:s.page<0
    · rw [E8 h1] at h
      obtain⟨bA,bt⟩:=BN a2 r hu h
      refine⟨bA,?_⟩
      rw [show one (s.page=p)=0 by unfold one;rw [if_neg (by omega)]]
      omega
    · cases ah:el u s.page.toNat with
      |
        true=>rw [UY h1 ah,abc] at h;cases h
      |false=>
        rw [yW h1 ah] at h
        obtain⟨bA,bt⟩:=BN a2 r (by rw [List.length_set];exact hu) h
        rw [List.length_set] at bA
        refine⟨bA,?_⟩
        by_cases aE:s.page=p
        · subst aE
          rw [fg hu] at bt
          rw [ah]
          simp only [one] at bt ⊢
          simp at bt ⊢
          omega
        · rw [show el (u.set s.page.toNat true) p.toNat=el u p.toNat from lB (by omega)] at bt
          rw [show one (s.page=p)=0 by unfold one;rw [if_neg aE]]
          omega
theorem Tk {p:Int} (a2:0<=p):∀(l:List aZ) {u v:List Bool},p.toNat<u.length->l.foldl pO (some u)=some v->v.length=u.length/\iG p l+one (el u p.toNat=true)=one (el v p.toNat=true)
  |
    [],u,v,hu,h=>by cases h;exact⟨rfl,by simp [iG]⟩
  |x::r,u,v,hu,h=>by
    rw [List.foldl_cons] at h
    rw [sR]
    cases hm:iP x with
    |false=>rw [UX hm,Py] at h;cases h
    |true=>
      rw [E7 hm] at h
      cases ah:x.outer.foldl n6 (some u) with
      |none=>rw [ah,Py] at h;cases h
      |some ash=>
        rw [ah] at h
        obtain⟨bA,bt⟩:=BN a2 x.outer hu ah
        obtain⟨fm,vu⟩:=Tk a2 r (by omega) h
        exact⟨by omega,by omega⟩
theorem aiO {h:ad} (e:dg h=true) {p:Int} (a2:0<=p/\p<=11):iG p h.I<=1:=by
  simp only [dg,Bool.and_eq_true,tF] at e
  obtain⟨v,bu⟩:=Option.isSome_iff_exists.mp e.2
  obtain⟨_,vu⟩:=Tk a2.1 h.I (by rw [List.length_replicate];omega) bu
  have:one (el v p.toNat=true)<=1:=by unfold one;split<;>omega
  omega
theorem E3 (p:Int) (s:aA):∀(l:List aA) (k:Nat),k<l.length->jQ p (l.set k s)+one ((el l k).page=p)=jQ p l+one (s.page=p)
  |
    [],k,h=>by simp at h
  |x::r,0,h=>by rw [List.set_cons_zero,s6,s6,show el (x::r) 0=x from rfl];omega
  |x::r,k+1,h=>by
    have:=E3 p s r k (by simpa using h)
    rw [List.set_cons_succ,s6,s6,show el (x::r) (k+1)=el r k by simp [el]];omega
theorem Bf (p:Int) (y:aZ):∀(l:List aZ) (k:Nat),k<l.length->iG p (l.set k y)+jQ p (el l k).outer=iG p l+jQ p y.outer
  |
    [],k,h=>by simp at h
  |x::r,0,h=>by rw [List.set_cons_zero,sR,sR,show el (x::r) 0=x from rfl];omega
  |x::r,k+1,h=>by
    have:=Bf p y r k (by simpa using h)
    rw [List.set_cons_succ,sR,sR,show el (x::r) (k+1)=el r k by simp [el]];omega
theorem BM {p:Int}:∀{l:List aA} {k:Nat},k<l.length->(el l k).page=p->1<=jQ p l
  |
    [],k,h,_=>by simp at h
  |x::r,0,_,e=>by rw [s6,show one (x.page=p)=1 from if_pos e];omega
  |x::r,k+1,h,e=>by
    have:=BM (l:=r) (k:=k) (by simpa using h) (by simpa [el] using e)
    rw [s6];omega
theorem Be {p:Int}:∀{l:List aZ} {k:Nat},k<l.length->jQ p (el l k).outer<=iG p l
  |
    [],k,h=>by simp at h
  |x::r,0,_=>by rw [sR,show el (x::r) 0=x from rfl];omega
  |x::r,k+1,h=>by
    have:=Be (p:=p) (l:=r) (k:=k) (by simpa using h)
    rw [sR,show el (x::r) (k+1)=el r k by simp [el]];omega
theorem TO {l:List aA} {page:Int} {k:Nat} (h:¬kp l page k<0):kp l page k<l.length/\(el l (kp l page k).toNat).page=page:=by
  by_cases hk:k<l.length
  · by_cases e:(el l k).page=page
    · rw [Lj hk e];exact⟨by omega,by simpa using e⟩
    · rw [Lk hk e] at h ⊢
      exact TO h
  · rw [TN (by omega)] at h;omega
termination_by l.length-k
theorem TL {ms:List aZ} {page:Int} {i:Nat} (h:¬(iQ ms page i).1<0):(iQ ms page i).1<ms.length/\0<=(iQ ms page i).2/\(iQ ms page i).2<(el ms (iQ ms page i).1.toNat).outer.length/\(el (el ms (iQ ms page i).1.toNat).outer (iQ ms page i).2.toNat).page=page:=by
  by_cases hk:i<ms.length
  · by_cases e:kp (el ms i).outer page 0<0
    · have bt:iQ ms page i=iQ ms page (i+1):=by rw [iQ,if_pos hk,if_pos e]
      rw [bt] at h ⊢
      exact TL h
    · have bt:iQ ms page i=((i:Int),kp (el ms i).outer page 0):=by rw [iQ,if_pos hk,if_neg e]
      rw [bt]
      have h1:=TO e
      exact⟨by show(i:Int)<_;omega,by show 0<=kp _ _ _;omega,h1.1,h1.2⟩
  · rw [TK (by omega)] at h;exact absurd (show(-1:Int)<0 by decide) h
termination_by ms.length-i
theorem Lp {h:ad} {p:Int} (e:¬(eG h p).1<0):(0<=(eG h p).1/\(eG h p).1<h.I.length)/\(0<=(eG h p).2/\(eG h p).2<(el h.I (eG h p).1.toNat).outer.length)/\(el (el h.I (eG h p).1.toNat).outer (eG h p).2.toNat).page=p:=by
  by_cases h0:p<0
  · rw [TQ h0] at e;exact absurd (show(-1:Int)<0 by decide) e
  · rw [Lo h0] at e ⊢
    have h1:=TL e
    exact⟨⟨by omega,h1.1⟩,⟨h1.2.1,h1.2.2.1⟩,h1.2.2.2⟩
theorem aiQ {h:ad} {p:Int} (e:iG p h.I=0):(eG h p).1<0:=by
  by_cases h0:(eG h p).1<0
  · exact h0
  · have h1:=Lp h0
    have ah:=Be (p:=p) (l:=h.I) (k:=(eG h p).1.toNat) (by omega)
    have aE:=BM (p:=p) (l:=(el h.I (eG h p).1.toNat).outer) (k:=(eG h p).2.toNat) (by omega) h1.2.2
    omega
theorem PF {h:ad} {p:Nat} (a2:p<h.mem.length) (e:(eG h p).1<0):0<(eN h).length:=by
  have:(p:Int)∈eN h:=by
    unfold eN j3
    exact List.mem_map.mpr ⟨p,List.mem_filter.mpr ⟨List.mem_range.mpr a2,by simpa using e⟩,rfl⟩
  exact List.length_pos_of_mem this
theorem PE {h:ad} (e:¬0<(eN h).length) {p:Nat} (a2:p<h.mem.length):¬(eG h p).1<0:=fun h1=>e (PF a2 h1)
def lens (x:aZ):Nat×Nat×Nat×Nat×Nat×Nat:=(x.outer.length,x.out.length,x.bj.length,x.U.length,x.tables.length,x.outs.length)
theorem L8 {xs:List aZ} {k:Nat} {y:aZ} (h:lens y=lens (el xs k)) (j:Nat):lens (el (xs.set k y) j)=lens (el xs j):=by
  by_cases hk:k<xs.length
  · by_cases bJ:k=j
    · subst bJ;rw [fg hk];exact h
    · rw [lB (fun e=>bJ e.symm)]
  · rw [List.set_eq_of_length_le (by omega)]
theorem wa {x y:aZ} (h:lens x=lens y):x.outer.length=y.outer.length/\x.out.length=y.out.length/\x.bj.length=y.bj.length/\x.U.length=y.U.length/\x.tables.length=y.tables.length/\x.outs.length=y.outs.length:=by
  simp only [lens,Prod.mk.injEq] at h;exact h
theorem E4 (h:ad) (m page:Int) (s:aA) (j:Nat):lens (el (jM h m page s).I j)=lens (el h.I j):=by
  unfold jM
  apply L8
  simp only [lens,BT,List.length_set]
theorem yU {h:ad} {m:Int} {x:aZ} (e:lens x=lens (el h.I m.toNat)) (j:Nat):lens (el (je h m x).I j)=lens (el h.I j):=L8 e j
theorem UO (h:ad) (a b:Int) (j:Nat):lens (el (iA h a b).I j)=lens (el h.I j):=by
  unfold iA
  rw [E4,yU]
  simp only [lens,List.length_set]
theorem UN (h:ad) (a b:Int):(iA h a b).I.length=h.I.length:=by simp [iA,jM,je]
theorem ak4 {l A:List aZ} {k:Nat} {y:aZ} (h:A=l.set k y) (hk:k<l.length):A=l.set k (el A k):=by subst h;rw [fg hk]
theorem ak2 {h:ad} {a b p:Int} (bR:a.toNat<h.I.length) (hb:b.toNat<(el h.I a.toNat).outer.length) (a2:0<=p) (e:(el (el h.I a.toNat).outer b.toNat).page=p):iG p (iA h a b).I+1=iG p h.I:=by
  have bA:(iA h a b).I=h.I.set a.toNat (el (iA h a b).I a.toNat):=by
    have p0:(iA h a b).I=_:=List.set_set _
    exact ak4 p0 bR
  have bt:(el (iA h a b).I a.toNat).outer=(el h.I a.toNat).outer.set b.toNat ⟨-1,0⟩:=by
    unfold iA jM je
    simp only [fg bR,List.set_set]
  have h1:=Bf p (el (iA h a b).I a.toNat) h.I a.toNat bR
  have ah:=E3 p ⟨-1,0⟩ (el h.I a.toNat).outer b.toNat hb
  rw [←bA,bt] at h1
  rw [show one ((el (el h.I a.toNat).outer b.toNat).page=p)=1 from if_pos e,show one ((-1:Int)=p)=0 from if_neg (by omega)] at ah
  omega
theorem UL {h:ad} (e:dg h=true) (bm:¬0<(eN h).length):(0<=(eG h 0).1/\(eG h 0).1<h.I.length)/\(0<=(eG h 0).2/\(eG h 0).2<=7)/\((el h.I (eG h 0).1.toNat).outer.length=8/\(el h.I (eG h 0).1.toNat).out.length=8/\(el h.I (eG h 0).1.toNat).bj.length=8/\(el h.I (eG h 0).1.toNat).tables.length=(el h.I (eG h 0).1.toNat).U.length)/\(el (el h.I (eG h 0).1.toNat).outer (eG h 0).2.toNat).page=0:=by
  have h1:=Lp (PE bm (p:=0) (by have:=oA e;omega))
  simp only [Int.ofNat_zero,show((0:Nat):Int)=0 from rfl] at h1
  have ah:=KG (su e (k:=(eG h 0).1.toNat) (by omega))
  exact⟨h1.1,⟨h1.2.1.1,by omega⟩,ah,h1.2.2⟩
def tI (h:ad):ad:=iA h (eG h 0).1 (eG h 0).2
theorem L6 {h:ad} (e:dg h=true) (bm:¬0<(eN h).length):0<(eN (tI h)).length:=by
  have h1:=UL e bm
  have ah:=ak2 (p:=0) (by omega) (by omega) (Int.le_refl 0) h1.2.2.2
  have aE:=aiO e (p:=0) ⟨by decide,by decide⟩
  refine PF (p:=0) ?_ (aiQ ?_)
  · show 0<h.mem.length
    have:=oA e;omega
  · show iG 0 (iA h (eG h 0).1 (eG h 0).2).I=0
    omega
theorem ak0 {Y h:ad} (hY:Y=tI h) (e:dg h=true) (bm:¬0<(eN h).length) (m:Nat):0<(eN Y).length/\Y.I.length=h.I.length/\(el Y.I m).outer.length=(el h.I m).outer.length/\(el Y.I m).out.length=(el h.I m).out.length/\(el Y.I m).bj.length=(el h.I m).bj.length/\(el Y.I m).U.length=(el h.I m).U.length/\(el Y.I m).tables.length=(el h.I m).tables.length:=by
  subst hY
  have h1:=wa (UO h (eG h 0).1 (eG h 0).2 m)
  exact⟨L6 e bm,UN _ _ _,h1.1,h1.2.1,h1.2.2.1,h1.2.2.2.1,h1.2.2.2.2.1⟩
def mQ (m:List (List Int)) (p:Int) (c:List Int):List (List Int):=if(0<=p/\p<m.length)/\iR c=true then m.set p.toNat c else m
def iS (h:ad):ad:=if 0<(eN h).length then h else tI h
def om (h:ad) (m page:Int):ad:=
  jM ⟨mQ h.mem (el (eN h) 0) (el (el h.I m.toNat).out page.toNat),h.I.set m.toNat {el h.I m.toNat with out:=(el h.I m.toNat).out.set page.toNat []},h.buf,h.ar⟩ m page ⟨el (eN h) 0,3⟩
def lb (h:ad) (m page:Int):ad:=om (iS h) m page
def kE (h:ad) (m page:Int):ad×Bool:=
  if eF h m page=true/\(el (el h.I m.toNat).outer page.toNat).page=-1 then(lb h m page,true) else(h,false)
theorem ai1 {h:ad} {m page:Int} (e:eF h m page=false):kE h m page=(h,false):=by
  unfold kE;rw [if_neg (fun h1=>by rw [e] at h1;cases h1.1)]
theorem yC {h:ad} {m page:Int} (e:eF h m page=true) (h1:¬(el (el h.I m.toNat).outer page.toNat).page=-1\/¬el (el h.I m.toNat).outer page.toNat=⟨-1,0⟩):kE h m page=(h,false):=by
  unfold kE;rw [if_neg (fun ah=>h1.elim (fun aE=>aE ah.2) fun aE=>aE (Mb e ah.2))]
theorem yD {h:ad} {m page:Int} (e:eF h m page=true) (h1:(el (el h.I m.toNat).outer page.toNat).page=-1\/el (el h.I m.toNat).outer page.toNat=⟨-1,0⟩):kE h m page=(lb h m page,true):=by
  unfold kE;rw [if_pos ⟨e,h1.elim id fun aE=>by rw [aE]⟩]
theorem ad3 {h:ad} {m page:Int} (e:eF h m page=true):0<=(el (el h.I m.toNat).outer page.toNat).bW/\(el (el h.I m.toNat).outer page.toNat).bW<=3:=by
  have ah:=nq e
  simp only [eF,Bool.and_eq_true] at e
  have h1:=Eh e.1
  have aE:=BS (ux (su h1.1 (k:=m.toNat) (by omega))).2 (k:=page.toNat) (by omega)
  simp only [fz,Bool.or_eq_true,Bool.and_eq_true,decide_eq_true_eq] at aE
  rcases aE with aE|aE
  · rw [aE];exact⟨by decide,by decide⟩
  · have:=cM aE.2;omega
theorem rl {h:ad} {m page:Int} (e:eF h m page=true):dg h=true:=by
  simp only [eF,Bool.and_eq_true] at e
  exact(Eh e.1).1
def hZ (h:ad) (m page:Int):ad:=if(el (el h.I m.toNat).outer page.toNat).page=-1 then lb h m page else h
def nM (h:ad) (m page:Int):ad:=
  if eB (el (el h.I m.toNat).outer page.toNat).bW 2=true then je h m {el h.I m.toNat with bj:=(el h.I m.toNat).bj.set page.toNat true}
  else jM (je h m {el h.I m.toNat with bj:=(el h.I m.toNat).bj.set page.toNat true}) m page ⟨(el (el h.I m.toNat).outer page.toNat).page,3⟩
def gA (h:ad) (m page need:Int):ad:=if eB need 2=true then nM (hZ h m page) m page else hZ h m page
def aoh (h:ad) (m page need:Int):ad×Bool:=if eF h m page=true/\aS need 1 3=true then(gA h m page need,true) else(h,false)
theorem LX {h:ad} {m page:Int} (e:eF h m page=true):0<(eN (iS h)).length/\(iS h).I.length=h.I.length/\lens (el (iS h).I m.toNat)=lens (el h.I m.toNat):=by
  unfold iS
  split
  · rename_i bm;exact⟨bm,rfl,rfl⟩
  · rename_i bm;exact⟨L6 (rl e) bm,UN _ _ _,UO _ _ _ _⟩
theorem UB {h Y:ad} (e:Y=iA h (eG h 0).1 (eG h 0).2) (bc:¬0<(eN h).length):Y=iS h:=by unfold iS;rw [if_neg bc];exact e
theorem UA {h:ad} (a2:0<(eN h).length):h=iS h:=by unfold iS;rw [if_pos a2]
theorem akz {h Y:ad} {m page:Int} (hY:Y=iS h) (e:eF h m page=true):0<(eN Y).length/\Y.I.length=h.I.length/\(el Y.I m.toNat).outer.length=8/\(el Y.I m.toNat).out.length=8/\(el Y.I m.toNat).bj.length=8/\(el Y.I m.toNat).tables.length=(el Y.I m.toNat).U.length:=by
  subst hY
  have h1:=nq e
  have ah:=LX e
  have aE:=wa ah.2.2
  exact⟨ah.1,ah.2.1,by omega,by omega,by omega,by omega⟩
theorem T8 {h:ad} {m page:Int} (hm:m.toNat<h.I.length) (a2:page.toNat<(el h.I m.toNat).outer.length):el (el (om h m page).I m.toNat).outer page.toNat=⟨el (eN h) 0,3⟩:=by
  unfold om jM
  simp only [fg hm,fg a2,List.set_set]
theorem T7 (h:ad) (m page:Int) (j:Nat):lens (el (om h m page).I j)=lens (el h.I j):=by
  unfold om
  rw [E4]
  apply L8
  simp only [lens,List.length_set]
theorem G_ {Y h:ad} {m page:Int} (hY:Y=lb h m page) (e:eF h m page=true):(Y.I.length=h.I.length/\(el Y.I m.toNat).outer.length=8/\(el Y.I m.toNat).out.length=8/\(el Y.I m.toNat).bj.length=8/\(el Y.I m.toNat).tables.length=(el Y.I m.toNat).U.length)/\(el (el Y.I m.toNat).outer page.toNat).bW=3:=by
  subst hY
  have h1:=nq e
  have ah:=LX e
  have aE:=wa ah.2.2
  have b2:=wa (T7 (iS h) m page m.toNat)
  have cf:(om (iS h) m page).I.length=(iS h).I.length:=by simp [om,jM]
  have dU:=T8 (h:=iS h) (m:=m) (page:=page) (by omega) (by omega)
  unfold lb
  rw [dU]
  exact⟨⟨by omega,by omega,by omega,by omega,by omega⟩,rfl⟩
theorem KD {Y h:ad} {m page:Int} (hY:Y=hZ h m page) (e:eF h m page=true):(Y.I.length=h.I.length/\(el Y.I m.toNat).outer.length=8/\(el Y.I m.toNat).out.length=8/\(el Y.I m.toNat).bj.length=8/\(el Y.I m.toNat).tables.length=(el Y.I m.toNat).U.length)/\0<=(el (el Y.I m.toNat).outer page.toNat).bW/\(el (el Y.I m.toNat).outer page.toNat).bW<=3:=by
  unfold hZ at hY
  split at hY
  · have h1:=G_ hY e;exact⟨h1.1,by omega,by omega⟩
  · subst hY
    have h1:=nq e
    exact⟨⟨rfl,h1.2.2.1,h1.2.2.2.1,h1.2.2.2.2.1,h1.2.2.2.2.2⟩,ad3 e⟩
theorem Tf {h:ad} {m page:Int} (e:¬(el (el h.I m.toNat).outer page.toNat).page=-1):hZ h m page=h:=if_neg e
theorem Tg {h Y:ad} {m page:Int} (hY:Y=lb h m page) (e:(el (el h.I m.toNat).outer page.toNat).page=-1):hZ h m page=Y:=by
  unfold hZ;rw [if_pos e,hY]
theorem El {h Y:ad} {m page:Int} (hY:Y=lb h m page) (e:el (el h.I m.toNat).outer page.toNat=⟨-1,0⟩):Y=hZ h m page:=by rw [hY];exact(if_pos (by rw [e])).symm
theorem Ek {h:ad} {m page:Int} (p:eF h m page=true) (e:¬el (el h.I m.toNat).outer page.toNat=⟨-1,0⟩):hZ h m page=h:=if_neg fun aE=>e (Mb p aE)
theorem KE {h Y:ad} {m page:Int} (p:eF h m page=true) (h1:hZ h m page=Y):m.toNat<Y.I.length:=by
  have ah:=nq p
  have aE:=KD h1.symm p
  omega
theorem agB {h Y:ad} {m page need:Int} (p:eF h m page=true) (h1:hZ h m page=Y) (ah:eB need 2=false):gA h m page need=Y:=by
  unfold gA;rw [if_neg (by rw [ah];exact fun e=>by cases e),h1]
theorem agD {h Y:ad} {m page need:Int} {X:List aZ} (p:eF h m page=true) (h1:hZ h m page=Y) (ah:eB need 2=true) (jw:X=Y.I.set m.toNat {el Y.I m.toNat with bj:=(el Y.I m.toNat).bj.set page.toNat true})
    (aE:eB (el (el X m.toNat).outer page.toNat).bW 2=true):gA h m page need=⟨Y.mem,X,Y.buf,Y.ar⟩:=by
  subst jw
  rw [fg (KE p h1)] at aE
  unfold gA nM
  rw [if_pos ah,h1,if_pos aE]
  rfl
theorem agC {h Y:ad} {m page need:Int} {X:List aZ} (p:eF h m page=true) (h1:hZ h m page=Y) (ah:eB need 2=true) (jw:X=Y.I.set m.toNat {el Y.I m.toNat with bj:=(el Y.I m.toNat).bj.set page.toNat true})
    (aE:eB (el (el X m.toNat).outer page.toNat).bW 2=false):gA h m page need=jM ⟨Y.mem,X,Y.buf,Y.ar⟩ m page ⟨(el (el X m.toNat).outer page.toNat).page,3⟩:=by
  subst jw
  rw [fg (KE p h1)] at aE ⊢
  unfold gA nM
  rw [if_pos ah,h1,if_neg (by rw [aE];exact fun e=>by cases e)]
  rfl
theorem agA {h Y Z:ad} {m page need:Int} {X m2:List aZ} {s:aA} (p:eF h m page=true) (h1:hZ h m page=Y) (ah:eB need 2=true) (jw:X=Y.I.set m.toNat {el Y.I m.toNat with bj:=(el Y.I m.toNat).bj.set page.toNat true})
    (aE:eB (el (el X m.toNat).outer page.toNat).bW 2=false) (x0:m2=X.set m.toNat {el X m.toNat with outer:=(el X m.toNat).outer.set page.toNat ⟨(el (el X m.toNat).outer page.toNat).page,3⟩}) (hs:s=el (el X m.toNat).outer page.toNat) (x1:Z=oi ⟨Y.mem,m2,Y.buf,Y.ar⟩ m page s):gA h m page need=Z:=by
  rw [agC p h1 ah jw aE,x1,x0,hs]
  have hl:m.toNat<X.length:=by rw [jw,List.length_set];exact KE p h1
  unfold jM oi
  simp only [fg hl,List.set_set]
theorem Te {h Y:ad} {m page need:Int} (hY:Y=gA h m page need) (p:eF h m page=true):(Y.I.length=h.I.length/\(el Y.I m.toNat).outer.length=8):=by
  have h1:=KD (rfl:hZ h m page=hZ h m page) p
  have ah:(nM (hZ h m page) m page).I.length=(hZ h m page).I.length/\lens (el (nM (hZ h m page) m page).I m.toNat)=lens (el (hZ h m page).I m.toNat):=by
    unfold nM
    split
    · exact⟨by simp [je],yU (by simp only [lens,List.length_set]) _⟩
    · exact⟨by simp [je,jM],by rw [E4,yU (by simp only [lens,List.length_set])]⟩
  have aE:=wa ah.2
  subst hY
  unfold gA
  split
  · omega
  · exact⟨h1.1.1,h1.1.2.1⟩
def ew (b:a9) (page cell v:Int):a9×Bool:=
  if hK b=true/\(0<=page/\page<8)/\(0<=cell/\cell<4)/\aS v 0 99=true then(⟨gm b.mem page cell v,b.U,b.outs,b.av⟩,true) else(b,false)
def nc (h:ad) (m page cell v:Int):Bool:=eF h m page&&aS cell 0 3&&aS v 0 99
theorem yH {h:ad} {m page cell v:Int} (e:nc h m page cell v=true):eF h m page=true/\(0<=m/\m<h.I.length)/\0<=page/\page<=7:=by
  simp only [nc,Bool.and_eq_true] at e
  have h1:=nq e.1.1
  exact⟨e.1.1,h1.1,h1.2.1⟩
theorem T4 (h:ad) (m page cell v:Int):bP h m (ew (aG h m) page cell v)=(h,nc h m page cell v):=by
  have hw:∀a b n:Int,aS a b n=decide (b<=a/\a<=n):=fun a b n=>by
    simp only [aS,Bool.decide_and]
  by_cases ax:dg h=true/\0<=m/\m<h.I.length
  · have hb:=BJ ax.1 ax.2
    have a2:eF h m page=aS page 0 7:=by unfold eF;rw [Ke ax,Bool.true_and]
    unfold nc
    rw [a2]
    by_cases hc:(0<=page/\page<8)/\(0<=cell/\cell<4)/\aS v 0 99=true
    · have bA:ew (aG h m) page cell v=(⟨gm (aG h m).mem page cell v,(aG h m).U,(aG h m).outs,(aG h m).av⟩,true):=by
        unfold ew;rw [if_pos ⟨hb,hc⟩]
      have bt:mC h m ⟨gm (aG h m).mem page cell v,(aG h m).U,(aG h m).outs,(aG h m).av⟩=h:=by
        apply Xb ax.2
        · show(aG h m).U=_;unfold aG;rw [if_pos ax.2]
        · show(aG h m).av=_;unfold aG;rw [if_pos ax.2]
      unfold bP
      rw [bA,if_pos ⟨ax,rfl⟩,bt,hc.2.2,hw page,hw cell,decide_eq_true (by omega),decide_eq_true (by omega)]
      rfl
    · have bA:ew (aG h m) page cell v=(aG h m,false):=by
        unfold ew;rw [if_neg (fun h1=>hc h1.2)]
      have fm:(aS page 0 7&&aS cell 0 3&&aS v 0 99)=false:=by
        rw [Bool.eq_false_iff]
        intro h1
        simp only [Bool.and_eq_true] at h1
        have ah:=cM h1.1.1
        have aE:=cM h1.1.2
        exact hc ⟨by omega,by omega,h1.2⟩
      unfold bP
      rw [bA,fm,if_neg (fun h1=>by cases h1.2)]
  · have fm:nc h m page cell v=false:=by
      rw [Bool.eq_false_iff]
      intro h1
      have ah:=yH h1
      exact ax ⟨rl ah.1,ah.2.1⟩
    unfold bP
    rw [fm,if_neg (fun h1=>ax h1.1)]
def kZ (h:ad) (m page cell v:Int):ad×Bool:=
  if nc h m page cell v=true then(⟨gm (gA h m page 2).mem (el (el (gA h m page 2).I m.toNat).outer page.toNat).page cell v,(gA h m page 2).I,(gA h m page 2).buf,(gA h m page 2).ar⟩,true) else(h,false)
theorem RJ {h:ad} {m page cell v:Int} (e:nc h m page cell v=false):kZ h m page cell v=(h,false):=by
  unfold kZ;rw [if_neg (by rw [e];exact fun h1=>by cases h1)]
theorem aeW {h Y:ad} {m page cell v:Int} (e:nc h m page cell v=true) (hY:Y=gA h m page 2):kZ h m page cell v=(⟨gm Y.mem (el (el Y.I m.toNat).outer page.toNat).page cell v,Y.I,Y.buf,Y.ar⟩,true):=by
  subst hY;unfold kZ;rw [if_pos e]
end Go.Proofs.YtmeoackmjdoecaaGreat
namespace Go.Proofs.YtmeoackmjdoecaaGreat
open Go
set_option linter.unusedVariables false
set_option linter.unusedSimpArgs false
def eQ (b:List a0) (tag page:Int):a0×Bool:=
  match b.find? (fun e=>ij e tag page) with
  |some e=>(e,true)
  |none=>(⟨0,0,0,0⟩,false)
theorem aa5 {b:List a0} {tag page:Int} {k:Nat} (hk:b.length<=k) (h:(b.take k).find? (fun e=>ij e tag page)=none):eQ b tag page=(⟨0,0,0,0⟩,false):=by
  rw [fj hk] at h
  unfold eQ;rw [h]
theorem aa6 {b:List a0} {tag page:Int} {k:Nat} (hk:k<b.length) (h:(b.take k).find? (fun e=>ij e tag page)=none) (h1:ij (el b k) tag page=true):eQ b tag page=(el b k,true):=by
  have e:b.find? (fun e=>ij e tag page)=some (el b k):=by
    have p0:b=b.take k++el b k::b.drop (k+1):=by
      rw [hJ hk,←List.drop_eq_getElem_cons hk,List.take_append_drop]
    rw [p0,List.find?_append,h,Option.none_or,List.find?_cons,←p0,h1]
  unfold eQ;rw [e]
theorem C9 {b:List a0} {tag page:Int} {k:Nat} (hk:k<b.length) (h:(b.take k).find? (fun e=>ij e tag page)=none) (h1:ij (el b k) tag page=false):(b.take (k+1)).find? (fun e=>ij e tag page)=none:=by
  rw [iH hk,List.find?_append,h,Option.none_or,List.find?_cons,h1];rfl
theorem Pr {K:Nat} {F:aw} {w:World} {b:List a0} {p:af a0} (h:GT.rd K F w b p) (tag page:Int):my (eQ b tag page).1:=by
  unfold eQ
  split
  · rename_i e he
    obtain⟨i,hi,bA⟩:=List.getElem_of_mem (List.mem_of_find?_eq_some he)
    have ah:=ag.el h i hi
    rw [hJ hi,bA] at ah
    exact ah
  · exact⟨⟨by decide,by decide⟩,⟨by decide,by decide⟩,⟨by decide,by decide⟩,⟨by decide,by decide⟩⟩
def g_ (b:List a0) (e:a0):List a0:=(ds b e.tag e.page++[e]).drop ((ds b e.tag e.page++[e]).length-6)
def bK (k:bO) (page:Int):aA×Bool:=
  if((0<=page/\page<k.known.length)/\page<k.bN.length)/\el k.known page.toNat=true then(el k.bN page.toNat,true) else(⟨-1,0⟩,false)
theorem Ce {K:Nat} {F:aw} {w:World} {k:bO} {p:hI} (h:GT.rd K F w k p) (page:Int):fx (bK k page).1:=by
  unfold bK
  split
  · exact ag.el (hV.bN (d:=k) h) _ (by omega)
  · exact⟨⟨by decide,by decide⟩,⟨by decide,by decide⟩⟩
def mE (a b:Int):Int:=if aS a 0 3=true/\aS b 0 3=true then mg a b else 0
theorem Xg (a b:Int):0<=mE a b/\mE a b<=3:=by
  unfold mE
  split
  · rename_i h
    have h1:=cM h.1
    have ah:=cM h.2
    have bA:a=0\/a=1\/a=2\/a=3:=by omega
    have bt:b=0\/b=1\/b=2\/b=3:=by omega
    rcases bA with e|e|e|e<;>rcases bt with f|f|f|f<;>subst e<;>subst f<;>decide
  · omega
theorem Xh (a b:Int):aq (mE a b):=by
  have:=Xg a b;exact⟨by omega,by omega⟩
def iw (s:aA) (t:List aA):aA:=
  if s.page=-1\/(dw t s.page).page=-1\/mE s.bW (dw t s.page).bW=0 then⟨-1,0⟩ else⟨(dw t s.page).page,mE s.bW (dw t s.page).bW⟩
theorem Zo {K:Nat} {F:aw} {w:World} {t:List aA} {p:af aA} (h:GT.rd K F w t p) (s:aA):fx (iw s t):=by
  unfold iw
  split
  · exact⟨⟨by decide,by decide⟩,⟨by decide,by decide⟩⟩
  · exact⟨(UT h s.page).1,Xh _ _⟩
def q3 (k:bO) (inner outer:List aA) (page:Int):bO:=
  if((0<=page/\page<k.known.length)/\page<k.bN.length)/\page<inner.length then⟨k.known.set page.toNat true,k.bN.set page.toNat (iw (el inner page.toNat) outer)⟩ else k
theorem PB {α β:Type} [GT α] {f:β->α->β} {y:α}:∀{xs:List α} {k:Nat},k<xs.length->(∀u,f u y=f u (el xs k))->∀z,(xs.set k y).foldl f z=xs.foldl f z
  |
    [],k,h,_,_=>by simp at h
  |x::r,0,_,e,z=>by rw [List.set_cons_zero,List.foldl_cons,List.foldl_cons,e z];rfl
  |x::r,k+1,h,e,z=>by
    rw [List.set_cons_succ,List.foldl_cons,List.foldl_cons]
    exact PB (by simpa using h) (fun u=>by have:=e u;rwa [show el (x::r) (k+1)=el r k by simp [el]] at this) _
theorem agF {x:aZ} {d:List Bool} (h:d.length=x.bj.length):iP {x with bj:=d}=iP x:=by
  have h1:p5 {x with bj:=d}=p5 x:=by unfold p5;simp only [h]
  have ah:vw {x with bj:=d}=vw x:=rfl
  have aE:nb {x with bj:=d}=nb x:=rfl
  unfold iP
  rw [h1,ah,aE]
def q2 (h:ad) (m q:Int):ad:=je h m {el h.I m.toNat with bj:=(el h.I m.toNat).bj.set q.toNat true}
theorem aeV {h:ad} {m q:Int} (hm:m.toNat<h.I.length):dg (q2 h m q)=dg h:=by
  have h1:q4 (q2 h m q)=q4 h:=by
    unfold q4 q2 je
    simp only [List.length_set]
  have ah:tF (q2 h m q)=tF h:=by
    unfold tF q2 je
    refine PB hm (fun u=>?_) _
    unfold pO
    rw [agF List.length_set]
  unfold dg
  rw [h1,ah]
theorem ad2 {h:ad} {m q p:Int} (e:eF h m p=true):eF (q2 h m q) m p=true:=by
  have ah:=nq e
  have h1:(q2 h m q).I.length=h.I.length:=List.length_set
  simp only [eF,q6,Bool.and_eq_true] at e ⊢
  rw [aeV (by omega),h1]
  exact e
theorem sH {h:ad} {m:Int} (e:(aC h m).2=true):(0<=m/\m<h.I.length)/\(aC h m).1=el h.I m.toNat/\(aC h m).1.U.length=(el h.I m.toNat).U.length:=by
  unfold aC at e ⊢
  split at e
  · rename_i hm;rw [if_pos hm];exact⟨hm,rfl,rfl⟩
  · cases e
def sb (h:ad) (m g page need:Int):Int:=(c6 (el (el h.I m.toNat).U g.toNat).live page need).1
theorem Vc {h:ad} {m g page need:Int} (e:(c6 (el (el h.I m.toNat).U g.toNat).live page need).2=true) (yd:dg h=true:=by assumption) (hm:0<=m/\m<h.I.length:=by omega) (aJ:0<=g/\g<(el h.I m.toNat).U.length:=by omega):
    eF h m (c6 (el (el h.I m.toNat).U g.toNat).live page need).1=true/\(0<=(c6 (el (el h.I m.toNat).U g.toNat).live page need).1/\(c6 (el (el h.I m.toNat).U g.toNat).live page need).1<=7)/\(el h.I m.toNat).outer.length=8/\(el h.I m.toNat).out.length=8/\(el h.I m.toNat).bj.length=8/\(el h.I m.toNat).tables.length=(el h.I m.toNat).U.length:=by
  have h0:=su yd (k:=m.toNat) (by omega)
  have h1:na (el (el h.I m.toNat).U g.toNat)=true:=by
    simp only [iP,Bool.and_eq_true] at h0
    exact w7 h0.1.2 (by omega)
  have ah:h7 (el (el h.I m.toNat).U g.toNat).live 4 8=true:=by
    simp only [na,Bool.and_eq_true] at h1
    exact h1.1.1.1.1.2
  have aI:0<=(c6 (el (el h.I m.toNat).U g.toNat).live page need).1/\(c6 (el (el h.I m.toNat).U g.toNat).live page need).1<=7:=by
    unfold c6 at e ⊢
    split at e
    · cases e
    · rename_i bc
      rw [if_neg bc]
      simp only
      unfold dw at bc ⊢
      by_cases a2:0<=page/\page<((el (el h.I m.toNat).U g.toNat).live.length:Int)
      · rw [if_pos a2] at bc ⊢
        have aE:=BS ah (k:=page.toNat) (by omega)
        simp only [fz,Bool.or_eq_true,Bool.and_eq_true,decide_eq_true_eq] at aE
        rcases aE with aE|aE
        · rw [aE] at bc;exact absurd (Or.inl rfl) bc
        · exact cM aE.1.2
      · rw [if_neg a2] at bc;exact absurd (Or.inl rfl) bc
  refine⟨?_,aI,KG h0⟩
  simp only [eF,Bool.and_eq_true]
  refine⟨Ke ⟨yd,hm⟩,?_⟩
  simp only [aS,Bool.and_eq_true,decide_eq_true_eq]
  exact aI
theorem u0 {h:ad} {m g page need:Int} (e:(c6 (el (aC h m).1.U g.toNat).live page need).2=true) (yd:dg h=true:=by assumption) (hm:(aC h m).2=true:=by assumption) (aJ:0<=g/\g<(aC h m).1.U.length:=by omega):
    eF h m (c6 (el (aC h m).1.U g.toNat).live page need).1=true/\(0<=(c6 (el (aC h m).1.U g.toNat).live page need).1/\(c6 (el (aC h m).1.U g.toNat).live page need).1<=7)/\(el h.I m.toNat).outer.length=8/\(el h.I m.toNat).out.length=8/\(el h.I m.toNat).bj.length=8/\(el h.I m.toNat).tables.length=(el h.I m.toNat).U.length:=by
  have h1:=sH hm
  rw [h1.2.1] at e aJ ⊢
  exact Vc e yd h1.1 aJ
def p4 (h:ad) (m g page need:Int):Bool:=
  dg h&&decide (0<=m/\m<h.I.length)&&decide (0<=g/\g<(el h.I m.toNat).U.length)&&decide (need=1\/need=2)&&(c6 (el (el h.I m.toNat).U g.toNat).live page need).2
def og (h:ad) (io:Bool):List a0:=if io=true then h.ar else h.buf
def oo (h:ad) (io:Bool) (e:a0):ad:=if io=true then⟨h.mem,h.I,h.buf,g_ h.ar e⟩ else⟨h.mem,h.I,g_ h.buf e,h.ar⟩
def C8 (b:List a0) (tag page need:Int):Bool:=(eQ b tag page).2&&eB (eQ b tag page).1.bW need
def xJ (k:bO) (page need:Int):Bool:=((!(bK k page).2)||((bK k page).1.page== -1))||(!eB (bK k page).1.bW need)
def Pm (k:bO) (m g page:Int):a0:=⟨cq m g,page,(bK k page).1.page,(bK k page).1.bW⟩
def xG (z:aZ) (g page:Int):List bO:=z.tables.set g.toNat (q3 (el z.tables g.toNat) (el z.U g.toNat).live z.outer page)
def tE (h:ad) (m g page:Int):ad:=je h m {el h.I m.toNat with tables:=xG (el h.I m.toNat) g page}
def p3 (h:ad) (m g page:Int) (io:Bool):ad×Int×Bool:=
  (oo h io (Pm (el (el h.I m.toNat).tables g.toNat) m g page),(bK (el (el h.I m.toNat).tables g.toNat) page).1.page,true)
def lE (h:ad) (m g page need q:Int) (io:Bool):ad×Int×Bool:=
  if C8 (og h io) (cq m g) page need=true then(h,(eQ (og h io) (cq m g) page).1.host,true)
  else if xJ (el (el h.I m.toNat).tables g.toNat) page need=true then p3 (tE (gA h m q need) m g page) m g page io
  else p3 h m g page io
def m9 (h:ad) (m q need:Int):ad:=if need=2 then q2 h m q else h
def bk (h:ad) (m g page need:Int) (io:Bool):ad×Int×Bool:=
  if p4 h m g page need=true then lE (m9 h m (sb h m g page need) need) m g page need (sb h m g page need) io
  else(h,-1,false)
theorem AP {h:ad} {m g page need:Int} {io:Bool} (e:p4 h m g page need=false):bk h m g page need io=(h,-1,false):=by
  unfold bk;rw [if_neg (by rw [e];exact fun h=>by cases h)]
theorem S1 {h:ad} {m g page need:Int} {io:Bool} (e:((((!dg h)||(!(aC h m).2))||(!aS g 0 (((aC h m).1.U.length:Int)-1)))||((need != 1)&&(need != 2)))=true):bk h m g page need io=(h,-1,false):=by
  apply AP
  rw [Bool.eq_false_iff]
  intro h1
  simp only [p4,Bool.and_eq_true,decide_eq_true_eq] at h1
  obtain⟨⟨⟨⟨ah,aE⟩,b2⟩,cf⟩,_⟩:=h1
  have bt:aC h m=(el h.I m.toNat,true):=by unfold aC;rw [if_pos aE]
  have fm:aS g 0 (((el h.I m.toNat).U.length:Int)-1)=true:=by
    simp only [aS,Bool.and_eq_true,decide_eq_true_eq];omega
  rw [ah,bt,fm] at e
  rcases cf with cf|cf<;>subst cf<;>simp at e
theorem S2 {h:ad} {m g page need:Int} {io:Bool} (hm:(aC h m).2=true) (e:(c6 (el (aC h m).1.U g.toNat).live page need).2=false):bk h m g page need io=(h,-1,false):=by
  apply AP
  rw [(sH hm).2.1] at e
  unfold p4
  rw [e,Bool.and_false]
theorem agm {h:ad} {m g page need:Int} {io:Bool} (h1:dg h=true) (ah:0<=m/\m<h.I.length) (aE:0<=g/\g<(el h.I m.toNat).U.length) (b2:need=1\/need=2) (cf:(c6 (el (el h.I m.toNat).U g.toNat).live page need).2=true):
    bk h m g page need io=lE (m9 h m (c6 (el (el h.I m.toNat).U g.toNat).live page need).1 need) m g page need (c6 (el (el h.I m.toNat).U g.toNat).live page need).1 io:=by
  unfold bk
  rw [if_pos (by unfold p4;rw [h1,cf,decide_eq_true ah,decide_eq_true aE,decide_eq_true b2];rfl)]
  rfl
theorem yw {h Y:ad} {m g page need:Int} {io:Bool} (h1:dg h=true) (ah:(aC h m).2=true) (aE:0<=g/\g<(aC h m).1.U.length) (b2:need=1\/need=2) (cf:(c6 (el (aC h m).1.U g.toNat).live page need).2=true) (xX:Y=m9 h m (c6 (el (aC h m).1.U g.toNat).live page need).1 need):
    bk h m g page need io=lE Y m g page need (c6 (el (aC h m).1.U g.toNat).live page need).1 io:=by
  subst xX
  have dU:=sH ah
  rw [dU.2.1] at aE cf ⊢
  exact agm h1 dU.1 aE b2 cf
theorem CY {h:ad} {X:List aZ} {m q need:Int} (e:need=2) (jw:X=h.I.set m.toNat {el h.I m.toNat with bj:=(el h.I m.toNat).bj.set q.toNat true}):(⟨h.mem,X,h.buf,h.ar⟩:ad)=m9 h m q need:=by
  unfold m9;rw [if_pos e,jw];rfl
theorem CX {h:ad} {m q need:Int} (e:¬need=2):h=m9 h m q need:=(if_neg e).symm
theorem S3 {h:ad} {m g page need q:Int} {io:Bool} (e:((eQ (og h io) (cq m g) page).2&&eB (eQ (og h io) (cq m g) page).1.bW need)=true):lE h m g page need q io=(h,(eQ (og h io) (cq m g) page).1.host,true):=by
  unfold lE;exact if_pos e
theorem S6 {h:ad} {m g page need q:Int} {io:Bool} (e:((eQ (og h io) (cq m g) page).2&&eB (eQ (og h io) (cq m g) page).1.bW need)=false):
    lE h m g page need q io=if xJ (el (el h.I m.toNat).tables g.toNat) page need=true then p3 (tE (gA h m q need) m g page) m g page io else p3 h m g page io:=by
  unfold lE;exact if_neg (fun h1=>by rw [show C8 _ _ _ _=false from e] at h1;cases h1)
theorem S4 {h:ad} {m g page need q:Int} {io:Bool} (e:((eQ (og h io) (cq m g) page).2&&eB (eQ (og h io) (cq m g) page).1.bW need)=false)
    (bt:(((!(bK (el (el h.I m.toNat).tables g.toNat) page).2)||((bK (el (el h.I m.toNat).tables g.toNat) page).1.page== -1))||(!eB (bK (el (el h.I m.toNat).tables g.toNat) page).1.bW need))=false):lE h m g page need q io=p3 h m g page io:=by
  rw [S6 e];exact if_neg (fun h1=>by rw [show xJ _ _ _=false from bt] at h1;cases h1)
theorem S5 {h Z:ad} {X:List aZ} {m g page need q:Int} {io:Bool} (e:((eQ (og h io) (cq m g) page).2&&eB (eQ (og h io) (cq m g) page).1.bW need)=false)
    (bt:(((!(bK (el (el h.I m.toNat).tables g.toNat) page).2)||((bK (el (el h.I m.toNat).tables g.toNat) page).1.page== -1))||(!eB (bK (el (el h.I m.toNat).tables g.toNat) page).1.bW need))=true) (x1:Z=gA h m q need)
    (jw:X=Z.I.set m.toNat {el Z.I m.toNat with tables:=(el Z.I m.toNat).tables.set g.toNat (q3 (el (el Z.I m.toNat).tables g.toNat) (el (el Z.I m.toNat).U g.toNat).live (el Z.I m.toNat).outer page)}):lE h m g page need q io=p3 ⟨Z.mem,X,Z.buf,Z.ar⟩ m g page io:=by
  subst jw x1
  rw [S6 e,if_pos (show xJ _ _ _=true from bt)]
  rfl
theorem aeU {h:ad} (e:dg h=true):h.buf.length<=6/\h.ar.length<=6:=by
  simp only [dg,q4,lD,Bool.and_eq_true,decide_eq_true_eq] at e
  omega
theorem vt {h Y:ad} {m q need:Int} (xX:Y=m9 h m q need) (p:eF h m q=true):eF Y m q=true/\Y.I.length=h.I.length/\((el Y.I m.toNat).outer.length=8/\(el Y.I m.toNat).tables.length=(el Y.I m.toNat).U.length/\(el Y.I m.toNat).U.length=(el h.I m.toNat).U.length)/\Y.buf.length<=6/\Y.ar.length<=6:=by
  have h1:=nq p
  have ah:=aeU (rl p)
  unfold m9 at xX
  split at xX
  · subst xX
    have aE:=wa (yU (h:=h) (m:=m) (x:={el h.I m.toNat with bj:=(el h.I m.toNat).bj.set q.toNat true}) (by simp only [lens,List.length_set]) m.toNat)
    refine⟨ad2 p,List.length_set,?_,ah⟩
    unfold q2
    omega
  · subst xX
    exact⟨p,rfl,⟨h1.2.2.1,h1.2.2.2.2.2,rfl⟩,ah⟩
theorem C_ (b:List a0) (p:Int):(m_ b p).length<=b.length:=by
  unfold m_
  split
  · exact Nat.le_refl _
  · exact Fi _ _
theorem Ma (h:ad) (m page:Int) (s:aA):(jM h m page s).buf.length<=h.buf.length/\(jM h m page s).ar.length<=h.ar.length:=⟨C_ _ _,C_ _ _⟩
theorem ak1 (h:ad) (a b:Int):(iA h a b).buf.length<=h.buf.length/\(iA h a b).ar.length<=h.ar.length:=Ma (je h a _) a b ⟨-1,0⟩
theorem akA (h:ad):(iS h).buf.length<=h.buf.length/\(iS h).ar.length<=h.ar.length:=by
  unfold iS
  split
  · exact⟨Nat.le_refl _,Nat.le_refl _⟩
  · exact ak1 h _ _
theorem aa4 (h:ad) (m page:Int):(lb h m page).buf.length<=h.buf.length/\(lb h m page).ar.length<=h.ar.length:=by
  have h1:=akA h
  unfold lb om
  exact⟨Nat.le_trans (C_ _ _) h1.1,Nat.le_trans (C_ _ _) h1.2⟩
theorem agz (h:ad) (m page need:Int):(gA h m page need).buf.length<=h.buf.length/\(gA h m page need).ar.length<=h.ar.length:=by
  have h1:(hZ h m page).buf.length<=h.buf.length/\(hZ h m page).ar.length<=h.ar.length:=by
    unfold hZ;split
    · exact aa4 h m page
    · exact⟨Nat.le_refl _,Nat.le_refl _⟩
  unfold gA
  split
  · unfold nM
    split
    · exact h1
    · exact⟨Nat.le_trans (Ma _ _ _ _).1 h1.1,Nat.le_trans (Ma _ _ _ _).2 h1.2⟩
  · exact h1
theorem KC {h Z:ad} {m page need:Int} (x1:Z=gA h m page need) (p:eF h m page=true):Z.I.length=h.I.length/\((el Z.I m.toNat).outer.length=8/\(el Z.I m.toNat).U.length=(el h.I m.toNat).U.length/\(el Z.I m.toNat).tables.length=(el h.I m.toNat).tables.length)/\Z.buf.length<=h.buf.length/\Z.ar.length<=h.ar.length:=by
  have h0:=agz h m page need
  have h1:=Te x1 p
  have hm:lens (el (hZ h m page).I m.toNat)=lens (el h.I m.toNat):=by
    unfold hZ;split
    · unfold lb;rw [T7];exact(LX p).2.2
    · rfl
  have ah:lens (el (gA h m page need).I m.toNat)=lens (el h.I m.toNat):=by
    unfold gA
    split
    · unfold nM
      split
      · rw [yU (by simp only [lens,List.length_set])];exact hm
      · rw [E4,yU (by simp only [lens,List.length_set])];exact hm
    · exact hm
  subst x1
  have aE:=wa ah
  exact⟨h1.1,⟨h1.2,aE.2.2.2.1,aE.2.2.2.2.1⟩,h0⟩
theorem put_eq {X:List a0} {n:Nat} (h:n=X.length-6):X.drop (X.length-6)=(X.drop n).take (X.length-n):=by
  subst h;rw [List.take_of_length_le (by rw [List.length_drop];exact Nat.le_refl _)]
theorem ajb {X:List a0} (h:X.length<=6):X.drop (X.length-6)=X:=by
  rw [show X.length-6=0 by omega];rfl
theorem agn (h:ad) (m g page need q:Int) (io:Bool):(lE h m g page need q io).2.2=true:=by
  unfold lE
  split
  · rfl
  · split<;>rfl
theorem Ta {h:ad} {m g page need:Int} {io:Bool} (e:(bk h m g page need io).2.2=false):(bk h m g page need io).1=h:=by
  unfold bk at e ⊢
  split at e
  · rw [agn] at e;cases e
  · rename_i bc;rw [if_neg bc]
def kC (h:ad) (m g addr v:Int):ad×Bool:=
  if(aS addr 0 15=true/\aS v 0 99=true)/\(bk h m g (a7 addr) 2 true).2.2=true then
    (⟨gm (bk h m g (a7 addr) 2 true).1.mem (bk h m g (a7 addr) 2 true).2.1 (dK addr) v,(bk h m g (a7 addr) 2 true).1.I,(bk h m g (a7 addr) 2 true).1.buf,(bk h m g (a7 addr) 2 true).1.ar⟩,true)
  else(h,false)
theorem zO {h:ad} {m g addr v:Int} (e:aS addr 0 15=false\/aS v 0 99=false\/(bk h m g (a7 addr) 2 true).2.2=false):kC h m g addr v=(h,false):=by
  unfold kC;rw [if_neg (fun h1=>by rcases e with e|e|e<;>rw [e] at h1<;>simp at h1)]
theorem OY {h Y:ad} {m g addr v:Int} (hY:Y=(bk h m g (a7 addr) 2 true).1) (e:(bk h m g (a7 addr) 2 true).2.2=false):kC h m g addr v=(Y,false):=by
  rw [zO (.inr (.inr e)),hY,Ta e]
theorem OZ {h Y:ad} {m g addr v:Int} (hY:Y=(bk h m g (a7 addr) 2 true).1) (bA:aS addr 0 15=true) (bt:aS v 0 99=true) (e:(bk h m g (a7 addr) 2 true).2.2=true):kC h m g addr v=(⟨gm Y.mem (bk h m g (a7 addr) 2 true).2.1 (dK addr) v,Y.I,Y.buf,Y.ar⟩,true):=by
  subst hY;unfold kC;rw [if_pos ⟨⟨bA,bt⟩,e⟩]
def gZ (m:List (List Int)) (p c:Int):Int:=if(0<=p/\p<m.length)/\0<=c/\c<(el m p.toNat).length then el (el m p.toNat) c.toNat else 0
theorem Gm {K:Nat} {F:aw} {w:World} {m:List (List Int)} {q:af (List Int)} (h:GT.rd K F w m q) (p c:Int):aq (gZ m p c):=by
  unfold gZ
  split
  · exact ag.el (ag.el h _ (by omega)) _ (by omega)
  · exact⟨by decide,by decide⟩
def hE (h:ad) (m g addr:Int):ad×Int×Bool:=
  if aS addr 0 15=true/\(bk h m g (a7 addr) 1 true).2.2=true then
    ((bk h m g (a7 addr) 1 true).1,gZ (bk h m g (a7 addr) 1 true).1.mem (bk h m g (a7 addr) 1 true).2.1 (dK addr),true)
  else(h,0,false)
theorem ET {h:ad} {m g addr:Int} (e:aS addr 0 15=false\/(bk h m g (a7 addr) 1 true).2.2=false):hE h m g addr=(h,0,false):=by
  unfold hE;rw [if_neg (fun h1=>by rcases e with e|e<;>rw [e] at h1<;>simp at h1)]
theorem Ur {h Y:ad} {m g addr:Int} (hY:Y=(bk h m g (a7 addr) 1 true).1) (e:(bk h m g (a7 addr) 1 true).2.2=false):hE h m g addr=(Y,0,false):=by
  rw [ET (.inr e),hY,Ta e]
theorem Us {h Y:ad} {m g addr:Int} (hY:Y=(bk h m g (a7 addr) 1 true).1) (bA:aS addr 0 15=true) (e:(bk h m g (a7 addr) 1 true).2.2=true):hE h m g addr=(Y,gZ Y.mem (bk h m g (a7 addr) 1 true).2.1 (dK addr),true):=by
  subst hY;unfold hE;rw [if_pos ⟨bA,e⟩]
end Go.Proofs.YtmeoackmjdoecaaGreat
namespace Go.Proofs.YtmeoackmjdoecaaGreat
open Go
def dk (p:List cE) (aN:Int):cE:=if 0<=aN/\aN<p.length then el p aN.toNat else⟨7,0⟩
theorem sA {K:Nat} {F:aw} {w:World} {p:List cE} {q:af cE} (h:GT.rd K F w p q) (aN:Int):k9 (dk p aN):=by
  unfold dk
  split
  · exact ag.el h aN.toNat (by omega)
  · exact⟨⟨by decide,by decide⟩,⟨by decide,by decide⟩⟩
def tJ (g:az):Bool:=q1 g&&g.bH.lL&&decide (j4 g.av>=0)
theorem G1 {a b c d:Int} (h:((a==b)||(c==d))=true):a=b\/c=d:=by
  rcases (Bool.or_eq_true _ _).mp h with h|h
  · exact .inl (eq_of_beq h)
  · exact .inr (eq_of_beq h)
def G9 (o:Int):Int:=if o=3 then 3 else if o=4 then 4 else if o=5 then 5 else if o=6 then 6 else if o=7 then 7 else 2
def b6 (g:az):Int:=if q1 g=false then 0 else if tJ g=true then 1 else G9 (dk g.prog g.aN).hv
theorem BV (g:az):0<=b6 g/\b6 g<=7:=by
  unfold b6 G9
  repeat' split
  all_goals decide
def mO (g:az) (n:Int):az:=if g.seen.length<40 then {g with seen:=g.seen++[n]} else g
def p1 (g:az):az:=if tJ g=true then mO {g with av:=(fL g.av).1} (100+(fL g.av).2.1) else g
theorem alx (p:Int):-1<=(fL p).2.1/\(fL p).2.1<=64:=by
  have:=Fc p
  unfold fL
  split
  · constructor<;>(simp only;omega)
  · constructor<;>(simp only;omega)
def G7 (g:az) (i:cE):az:=
  if(0<=g.acc/\g.acc<=99)/\0<=i.x/\i.x<=99 then
    (if i.hv=1 then {cj g with acc:=i.x} else if i.hv=2 then {cj g with acc:=Int.tmod (g.acc+i.x) 100} else if i.hv=8/\g.acc=0 then {cj g with aN:=i.x} else cj g)
  else cj g
def p6 (g:az):az:=if b6 g=2 then G7 g (dk g.prog g.aN) else g
def k0 (g:az) (v:Int):az:=cj (mO {g with acc:=v} v)
def ch (g:az):Int:=if b6 g=3\/b6 g=4 then(dk g.prog g.aN).x else-1
theorem m3 {K:Nat} {F:aw} {w:World} {g:az} {p:dB} (h:GT.rd K F w g p):aq (ch g):=by
  unfold ch
  split
  · exact k9.x (sA (a5.prog h) g.aN)
  · exact⟨by decide,by decide⟩
def gB (w:Bool):Int:=if w=true then 2 else 1
def kB (page:Int) (w:Bool):dI:=⟨1,page,w,0⟩
def r7 (n:Int):dI:=⟨2,0,false,n⟩
def sa (n:Int):dI:=⟨3,0,false,n⟩
theorem JN:aq 0:=⟨by decide,by decide⟩
theorem Po {p:Int} (h:aq p) (w:Bool):iu (kB p w):=⟨(show aq 1 from⟨by decide,by decide⟩),h,JN⟩
theorem Zf {n:Int} (h:aq n):iu (r7 n):=⟨(show aq 2 from⟨by decide,by decide⟩),JN,h⟩
theorem aiK {n:Int} (h:aq n):iu (sa n):=⟨(show aq 3 from⟨by decide,by decide⟩),JN,h⟩
def kn (t k:Int):Bool:=aS t 0 3&&decide (k=1\/k=2)&&(mg t k != 0)
def mM (outer inner k:Int):Int:=if kn inner k=true then 1 else if kn outer k=true then 2 else 0
def jt (x:az) (bQ want:Int):az×Bool:=
  if want=6 then({x with exit:=r7 (dk x.prog x.aN).x},false)
  else if want=5/\kn bQ 1=true then({x with exit:=sa (dk x.prog x.aN).x},false)
  else if want=7/\kn bQ 2=true then({x with exit:=⟨4,0,false,0⟩},false)
  else if want=7 then(iN x,true) else(cj x,true)
def oq (x:az) (want:Int):az:=if want=5 then {x with exit:=sa (dk x.prog x.aN).x} else {x with exit:=⟨4,0,false,0⟩}
def lF (want:Int):Int:=if want=5 then 1 else 2
def mN (b:a9) (n:Int):a9:=if b.outs.length<40 then⟨b.mem,b.U,b.outs++[n],b.av⟩ else b
def sd (x:az) (want:Int):Int×Bool:=c6 x.live (a7 (ch x)) (gB (want==4))
def vv (b:a9) (g:Int) (x:az) (want:Int):a9:=
  if(sd x want).2=false then⟨b.mem,b.U.set g.toNat {x with exit:=kB (a7 (ch x)) (want==4)},b.outs,b.av⟩
  else if want=4 then⟨gm b.mem (sd x want).1 (dK (ch x)) x.acc,b.U.set g.toNat (cj x),b.outs,b.av⟩
  else⟨b.mem,b.U.set g.toNat (k0 x (gZ b.mem (sd x want).1 (dK (ch x)))),b.outs,b.av⟩
def l6 (b:a9) (x:az) (want:Int):a9:=if(jt x x.bH.bQ want).2=true/\want=5 then mN b (dk x.prog x.aN).x else b
def mD (b:a9) (g:Int) (x:az) (want:Int):a9:=
  if want=1 then⟨b.mem,b.U.set g.toNat (p1 x),b.outs,b.av⟩
  else if want=2 then⟨b.mem,b.U.set g.toNat (p6 x),b.outs,b.av⟩
  else if want=3\/want=4 then vv b g x want
  else⟨(l6 b x want).mem,(l6 b x want).U.set g.toNat (jt x x.bH.bQ want).1,(l6 b x want).outs,(l6 b x want).av⟩
def ig (b:a9) (g:Int):a9×Bool:=
  if hK b=true/\(0<=g/\g<b.U.length)/\¬b6 (el b.U g.toNat)=0 then(mD b g (el b.U g.toNat) (b6 (el b.U g.toNat)),true) else(b,false)
theorem xb {b:a9} {g:Int} (e:hK b=false\/(aR b g).2=false\/b6 (aR b g).1=0):ig b g=(b,false):=by
  unfold ig
  rw [if_neg]
  rintro⟨h1,ah,aE⟩
  rcases e with e|e|e
  · rw [e] at h1;cases h1
  · unfold aR at e;rw [if_pos ah] at e;cases e
  · unfold aR at e;rw [if_pos ah] at e;exact aE e
theorem NR {b:a9} {g:Int} (bA:hK b=true) (bt:(aR b g).2=true) (fm:¬b6 (aR b g).1=0):ig b g=(mD b g (aR b g).1 (b6 (aR b g).1),true):=by
  unfold aR at bt fm ⊢
  split at bt
  · rename_i ah
    rw [if_pos ah] at fm ⊢
    unfold ig
    rw [if_pos ⟨bA,ah,fm⟩]
  · cases bt
theorem s9 {b:a9} {g:Int} (e:(aR b g).2=true) (x:az):iT b g x=⟨b.mem,b.U.set g.toNat x,b.outs,b.av⟩:=by
  unfold aR at e
  split at e
  · rename_i ah;unfold iT;rw [if_pos ah]
  · cases e
theorem Ch {b:a9} {g:Int} {x:az} {want:Int} (e:want=1):mD b g x want=⟨b.mem,b.U.set g.toNat (p1 x),b.outs,b.av⟩:=by subst e;rfl
theorem Ci {b:a9} {g:Int} {x:az} {want:Int} (e:want=2):mD b g x want=⟨b.mem,b.U.set g.toNat (p6 x),b.outs,b.av⟩:=by subst e;rfl
theorem F2 {b:a9} {g:Int} {x:az} {want:Int} (e:want=3\/want=4):mD b g x want=vv b g x want:=by rcases e with e|e<;>subst e<;>rfl
theorem Cj {b:a9} {g:Int} {x:az} {want:Int} (bA:¬want=1) (bt:¬want=2) (fm:¬want=3) (vu:¬want=4):
    mD b g x want=⟨(l6 b x want).mem,(l6 b x want).U.set g.toNat (jt x x.bH.bQ want).1,(l6 b x want).outs,(l6 b x want).av⟩:=by
  unfold mD
  rw [if_neg bA,if_neg bt,if_neg (by omega)]
theorem lR {b kX:a9} {g:Int} (e:(aR b g).2=true) (h:kX.U=b.U) (x:az):iT kX g x=⟨kX.mem,kX.U.set g.toNat x,kX.outs,kX.av⟩:=by
  unfold aR at e
  split at e
  · rename_i ah;unfold iT;rw [if_pos (by rw [h];exact ah)]
  · cases e
theorem sW (b:a9) (n:Int):(mN b n).U=b.U:=by unfold mN;split<;>rfl
section
variable {b:a9} {g:Int} {x:az} {want:Int}
theorem KA (h:want=3\/want=4) (e:(c6 x.live (a7 (ch x)) (gB (want==4))).2=false):mD b g x want=⟨b.mem,b.U.set g.toNat {x with exit:=kB (a7 (ch x)) (want==4)},b.outs,b.av⟩:=by
  rw [F2 h];unfold vv;rw [if_pos (show(sd x want).2=false from e)]
theorem KB (h:want=4) (e:(c6 x.live (a7 (ch x)) (gB (want==4))).2=true):mD b g x want=⟨gm b.mem (c6 x.live (a7 (ch x)) (gB (want==4))).1 (dK (ch x)) x.acc,b.U.set g.toNat (cj x),b.outs,b.av⟩:=by
  rw [F2 (.inr h)];unfold vv;rw [if_neg (show ¬(sd x want).2=false by rw [show(sd x want).2=true from e];exact fun h=>by cases h),if_pos h];rfl
theorem Kz (h:want=3) (e:(c6 x.live (a7 (ch x)) (gB (want==4))).2=true):mD b g x want=⟨b.mem,b.U.set g.toNat (k0 x (gZ b.mem (c6 x.live (a7 (ch x)) (gB (want==4))).1 (dK (ch x)))),b.outs,b.av⟩:=by
  rw [F2 (.inl h)];unfold vv;rw [if_neg (show ¬(sd x want).2=false by rw [show(sd x want).2=true from e];exact fun h=>by cases h),if_neg (by omega)];rfl
theorem Ey (h:want=6):mD b g x want=⟨b.mem,b.U.set g.toNat {x with exit:=r7 (dk x.prog x.aN).x},b.outs,b.av⟩:=by
  subst h;rfl
theorem Lg (bc:want=5\/want=7) (e:kn x.bH.bQ (lF want)=true):mD b g x want=⟨b.mem,b.U.set g.toNat (oq x want),b.outs,b.av⟩:=by
  rcases bc with h|h<;>subst h
  · have bA:jt x x.bH.bQ 5=({x with exit:=sa (dk x.prog x.aN).x},false):=by
      unfold jt;rw [if_neg (by decide),if_pos ⟨rfl,e⟩]
    rw [Cj (by decide) (by decide) (by decide) (by decide)]
    unfold l6
    rw [bA,if_neg (by rintro⟨h,_⟩;cases h)]
    rfl
  · have bA:jt x x.bH.bQ 7=({x with exit:=⟨4,0,false,0⟩},false):=by
      unfold jt;rw [if_neg (by decide),if_neg (by rintro⟨h,_⟩;cases h),if_pos ⟨rfl,e⟩]
    rw [Cj (by decide) (by decide) (by decide) (by decide)]
    unfold l6
    rw [bA,if_neg (by rintro⟨h,_⟩;cases h)]
    rfl
theorem Lf (h:want=5) (e:kn x.bH.bQ (lF want)=false):mD b g x want=⟨(mN b (dk x.prog x.aN).x).mem,(mN b (dk x.prog x.aN).x).U.set g.toNat (cj x),(mN b (dk x.prog x.aN).x).outs,(mN b (dk x.prog x.aN).x).av⟩:=by
  subst h
  have hX:kn x.bH.bQ 1=false:=e
  have bA:jt x x.bH.bQ 5=(cj x,true):=by
    unfold jt;rw [if_neg (by decide),if_neg (by rw [hX];rintro⟨_,h⟩;cases h),if_neg (by rintro⟨h,_⟩;cases h),if_neg (by decide)]
  rw [Cj (by decide) (by decide) (by decide) (by decide)]
  unfold l6
  rw [bA,if_pos ⟨rfl,rfl⟩]
theorem Le (h:want=7) (e:kn x.bH.bQ (lF want)=false):mD b g x want=⟨b.mem,b.U.set g.toNat (iN x),b.outs,b.av⟩:=by
  subst h
  have hX:kn x.bH.bQ 2=false:=e
  have bA:jt x x.bH.bQ 7=(iN x,true):=by
    unfold jt;rw [if_neg (by decide),if_neg (by rintro⟨h,_⟩;cases h),if_neg (by rw [hX];rintro⟨_,h⟩;cases h),if_pos rfl]
  rw [Cj (by decide) (by decide) (by decide) (by decide)]
  unfold l6
  rw [bA,if_neg (by rintro⟨_,h⟩;cases h)]
end
end Go.Proofs.YtmeoackmjdoecaaGreat
namespace Go.Proofs.YtmeoackmjdoecaaGreat
open Go
def nf (h:ad) (m g:Int):Bool:=dg h&&aS m 0 ((h.I.length:Int)-1)&&aS g 0 (((el h.I m.toNat).U.length:Int)-1)
theorem BO {h:ad} {m g:Int} (e:nf h m g=true):dg h=true/\(0<=m/\m<h.I.length)/\0<=g/\g<(el h.I m.toNat).U.length:=by
  simp only [nf,Bool.and_eq_true] at e
  have h1:=cM e.1.2
  have ah:=cM e.2
  exact⟨e.1.1,by omega,by omega⟩
theorem alb {h:ad} {m g:Int} (bA:dg h=true) (bt:0<=m/\m<h.I.length) (fm:0<=g/\g<(el h.I m.toNat).U.length):nf h m g=true:=by
  simp only [nf,aS,Bool.and_eq_true,decide_eq_true_eq]
  exact⟨⟨bA,by omega,by omega⟩,by omega,by omega⟩
def p8 (h:ad) (m g:Int) (x:az):ad:=⟨h.mem,h.I.set m.toNat {el h.I m.toNat with U:=(el h.I m.toNat).U.set g.toNat x},h.buf,h.ar⟩
def oj (h:ad) (m g:Int) (x:az) (wr:Bool):ad×Int×Bool:=bk h m g (a7 (ch x)) (gB wr) false
def xI (h:ad) (m g:Int) (x:az) (wr:Bool):ad:=
  if(oj h m g x wr).2.2=false then p8 (oj h m g x wr).1 m g {x with exit:=kB (a7 (ch x)) wr}
  else if wr=true then p8 ⟨gm (oj h m g x wr).1.mem (oj h m g x wr).2.1 (dK (ch x)) x.acc,(oj h m g x wr).1.I,(oj h m g x wr).1.buf,(oj h m g x wr).1.ar⟩ m g (cj x)
  else p8 (oj h m g x wr).1 m g (k0 x (gZ (oj h m g x wr).1.mem (oj h m g x wr).2.1 (dK (ch x))))
def o7 (x:aZ) (y:az) (want:Int):Int:=if(¬want=6/\mM x.bQ y.bH.bQ (lF want)=2)/\x.owned<1000000000 then x.owned+1 else x.owned
def vx (x:aZ) (y:az) (want:Int):List Int:=if((jt y y.bH.bQ want).2=true/\want=5)/\x.outs.length<40 then x.outs++[(dk y.prog y.aN).x] else x.outs
def kG (x:aZ) (g:Int) (y:az) (want:Int):aZ:={x with U:=x.U.set g.toNat (jt y y.bH.bQ want).1,outs:=vx x y want,owned:=o7 x y want}
def zS (h:ad) (m:Int) (x:aZ):ad:=⟨h.mem,h.I.set m.toNat x,h.buf,h.ar⟩
def r_ (h:ad) (m g:Int) (x:az) (want:Int):ad:=
  if want=1 then p8 h m g (p1 x)
  else if want=2 then p8 h m g (p6 x)
  else if want=3\/want=4 then xI h m g x (want==4)
  else zS h m (kG (el h.I m.toNat) g x want)
def ix (h:ad) (m g:Int):ad×Bool:=
  if nf h m g=true/\¬b6 (el (el h.I m.toNat).U g.toNat)=0 then
    (r_ h m g (el (el h.I m.toNat).U g.toNat) (b6 (el (el h.I m.toNat).U g.toNat)),true)
  else(h,false)
theorem vY {h:ad} {m g:Int} (e:nf h m g=false\/b6 (el (el h.I m.toNat).U g.toNat)=0):ix h m g=(h,false):=by
  unfold ix
  rw [if_neg]
  rintro⟨h1,ah⟩
  rcases e with e|e
  · rw [e] at h1;cases h1
  · exact ah e
theorem RK {h:ad} {m g:Int} (e:nf h m g=true) (bt:¬b6 (el (el h.I m.toNat).U g.toNat)=0):ix h m g=(r_ h m g (el (el h.I m.toNat).U g.toNat) (b6 (el (el h.I m.toNat).U g.toNat)),true):=by
  unfold ix
  rw [if_pos ⟨e,bt⟩]
section
variable {h:ad} {m g:Int} {x:az} {want:Int}
theorem aeX (e:want=1):r_ h m g x want=p8 h m g (p1 x):=by subst e;rfl
theorem aeY (e:want=2):r_ h m g x want=p8 h m g (p6 x):=by subst e;rfl
theorem RL (e:want=3\/want=4):r_ h m g x want=xI h m g x (want==4):=by rcases e with e|e<;>subst e<;>rfl
theorem RM (bA:¬want=1) (bt:¬want=2) (fm:¬want=3) (vu:¬want=4):r_ h m g x want=zS h m (kG (el h.I m.toNat) g x want):=by
  unfold r_
  rw [if_neg bA,if_neg bt,if_neg (by omega)]
end
theorem S_ {h Y:ad} {m g page need:Int} {io:Bool} (hY:Y=(bk h m g page need io).1) (e:nf h m g=true):(0<=m/\m<Y.I.length)/\0<=g/\g<(el Y.I m.toNat).U.length:=by
  obtain⟨h1,ah,aE⟩:=BO e
  subst hY
  unfold bk
  split
  · rename_i hk
    have hw:(c6 (el (el h.I m.toNat).U g.toNat).live page need).2=true:=by
      simp only [p4,Bool.and_eq_true] at hk;exact hk.2
    have a2:=(Vc hw h1 ah aE).1
    have hd:=vt (need:=need) rfl a2
    have hm:=KC (need:=need) rfl hd.1
    show(0<=m/\m<(lE (m9 h m (sb h m g page need) need) m g page need (sb h m g page need) io).1.I.length)/\0<=g/\g<(el (lE (m9 h m (sb h m g page need) need) m g page need (sb h m g page need) io).1.I m.toNat).U.length
    change _/\_ at hd
    unfold sb
    generalize (c6 (el (el h.I m.toNat).U g.toNat).live page need).1=q at*
    generalize m9 h m q need=y at*
    have put:∀(z:ad) (e:a0),(oo z io e).I=z.I:=fun z e=>by unfold oo;split<;>rfl
    unfold lE
    split
    · show(0<=m/\m<y.I.length)/\0<=g/\g<(el y.I m.toNat).U.length
      exact⟨by omega,by omega⟩
    · split
      · unfold p3
        simp only [put]
        unfold tE je
        simp only [List.length_set]
        rw [fg (show m.toNat<(gA y m q need).I.length by omega)]
        simp only
        exact⟨by omega,by omega⟩
      · unfold p3
        simp only [put]
        exact⟨by omega,by omega⟩
  · exact⟨ah,aE⟩
def an6 (h:ad) (m:Int) (order:List Int):ad×List Bool:=order.foldl (fun s g=>((ix s.1 m g).1,s.2++[(ix s.1 m g).2])) (h,[])
end Go.Proofs.YtmeoackmjdoecaaGreat
