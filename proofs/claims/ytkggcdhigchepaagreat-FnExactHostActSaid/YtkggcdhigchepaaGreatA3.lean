/- A region that draws its order, only asks, and guards operations by tests whose outcome is known: one walk in the text's order. No program is named here. -/
import Derived.Test.YtkggcdhigchepaaGreatA2
import Derived.Test.YtkggcdhigchepaaGreatA1
import Derived.KernelRfl
import Derived.Lib.BitFns
namespace Go.Proofs.YtkggcdhigchepaaGreat
open Go
def n6:List (Nat×Bool)->Nat->Option Bool
  |[],_=>none
  |(s,x)::r,t=>bif Nat.beq s t then some x else n6 r t
def j6 (ov:List (Nat×Bool)) (i:Nat) (x:cy):cy×List (Bool×Bool):=
  match n6 ov i,x with
  |some b,.v (.bool c)=>(.v (.bool b),[(c,b)])
  |_,x=>(x,[])
def fc:List (Bool×Bool)->Prop
  |[]=>True
  |p::r=>p.1=p.2/\fc r
theorem fc.nil:fc []:=trivial
theorem fc.cons {c b:Bool} {l:List (Bool×Bool)} (h:c=b) (t:fc l):fc ((c,b)::l):=⟨h,t⟩
theorem fc.left:∀{l r:List (Bool×Bool)},fc (l++r)->fc l
  |[],_,_=>trivial
  |_::_,_,h=>⟨h.1,fc.left h.2⟩
theorem fc.right:∀{l r:List (Bool×Bool)},fc (l++r)->fc r
  |[],_,h=>h
  |_::_,_,h=>fc.right (l:=_) h.2
theorem zD {ov:List (Nat×Bool)} {i:Nat} {x:cy} (h:fc (j6 ov i x).2):(j6 ov i x).1=x:=by
  unfold j6 at h ⊢;split
  · rename_i b c hb;simp only [hb] at h;have:=h.1;simp only at this;rw [this]
  · rfl
def iM (P:Program) (n:Nat) (ops:Array Oper) (ov:List (Nat×Bool)):Nat->List Oper->aX->List Value->Option (aX×List (Ask×Value)×List (Bool×Bool))
  |
    _,[],σ,_=>some (σ,[],[])
  |i,o::r,σ,cU=>
    match ht ops σ o with
    |none=>none
    |some false=>(σ.put n o.dst (.v undef)).bind fun σ'=>iM P n ops ov (i+1) r σ' cU
    |some true=>
      match ln P σ o with
      |some (.val x)=>(σ.put n o.dst (j6 ov i x).1).bind fun σ'=>(iM P n ops ov (i+1) r σ' cU).map fun z=>(z.1,z.2.1,(j6 ov i x).2++z.2.2)
      |some (.ask q)=>
        match cU with
        |[]=>none
        |v::od=>(σ.put n o.dst (j6 ov i (.v v)).1).bind fun σ'=>(iM P n ops ov (i+1) r σ' od).map fun z=>(z.1,(q,v)::z.2.1,(j6 ov i (.v v)).2++z.2.2)
      |_=>none
theorem pt (P:Program) (n:Nat) (ops:Array Oper) (ov:List (Nat×Bool)):∀(l:List Oper) (i:Nat) (σ:aX) (d:List Value) (f:aX×List (Ask×Value)×List (Bool×Bool)),
    iM P n ops ov i l σ d=some f->fc f.2.2->fU P n ops l σ d=some (f.1,f.2.1)
  |
    [],i,σ,d,f,h,hb=>by
    simp only [iM,Option.some.injEq] at h;subst h;rfl
  |o::l,i,σ,d,f,h,hb=>by
    simp only [iM] at h;simp only [fU];split at h
    · cases h
    · rename_i aA
      try rw [aA]
      try simp only
      cases aY:σ.put n o.dst (.v undef) with
      |none=>rw [aY] at h;cases h
      |some q=>
        rw [aY] at h;exact pt P n ops ov l (i+1) q d f h hb
    · rename_i aA
      try rw [aA]
      try simp only
      split at h
      · rename_i x hx;rw [hx];simp only;cases aY:σ.put n o.dst (j6 ov i x).1 with
        |
          none=>rw [aY] at h;cases h
        |some q=>
          rw [aY] at h;simp only [Option.bind_some] at h;cases aU:iM P n ops ov (i+1) l q d with
          |none=>rw [aU] at h;cases h
          |some r=>
            rw [aU] at h;simp only [Option.map_some,Option.some.injEq] at h;subst h;rw [zD hb.left] at aY;rw [aY];exact pt P n ops ov l (i+1) q d r aU hb.right
      · rename_i u hx;rw [hx];simp only;split at h
        · cases h
        · rename_i v t;cases aY:σ.put n o.dst (j6 ov i (.v v)).1 with
          |
            none=>rw [aY] at h;cases h
          |some q=>
            rw [aY] at h;simp only [Option.bind_some] at h;cases aU:iM P n ops ov (i+1) l q t with
            |none=>rw [aU] at h;cases h
            |some r=>
              rw [aU] at h;simp only [Option.map_some,Option.some.injEq] at h;subst h;rw [zD hb.left] at aY;have:=pt P n ops ov l (i+1) q t r aU hb.right;simp only [aY,Option.bind_some,this,Option.map_some]
      · cases h
def HX (P:Program) (n:Nat) (ops:Array Oper) (ov:List (Nat×Bool)) (σ:aX) (cU:List Value) (keep:List Nat) (m:Nat):Option (aX×List (Ask×Value)×List (Bool×Bool)):=
  (iM P n ops ov 0 ops.toList σ cU).map fun x=>(⟨x.1.keep m keep,x.1.aN.take m⟩,x.2)
variable {P:Program} {n:Nat} {w0:World} {M:ah} {u:World} {N:ah} {β:Nat->Nat} {σ σ':aX} {a:Act} {w:World} {ops:Array Oper} {Q:Exit->Act->World->Prop}
end Go.Proofs.YtkggcdhigchepaaGreat
namespace Go.Proofs.YtkggcdhigchepaaGreat
open Go
set_option linter.unusedSimpArgs false
set_option linter.unusedVariables false
def b0 (x:Int) (k:Int) (f:Int->Int):Int:=if x=k then f (IntKind.i64.wrap (k+1)) else-1
def db (x:Bool) (k:Int) (f:Int->Int):Int:=if x=(Int.tmod k 3==0) then f (IntKind.i64.wrap (k+1)) else-1
def bV (k:Int) (f:Int->Int):Int:=if k<0 then-1 else f k
theorem jU {x k:Int} {f:Int->Int} (h:x=k) (h1:-9223372036854775808<=k+1) (ab:k+1<=9223372036854775807):b0 x k f=f (k+1):=by
  unfold b0;rw [if_pos h,mb ⟨h1,ab⟩]
theorem jT {x:Bool} {k:Int} {f:Int->Int} (h:x=(Int.tmod k 3==0)) (h1:-9223372036854775808<=k+1) (ab:k+1<=9223372036854775807):db x k f=f (k+1):=by
  unfold db;rw [if_pos h,mb ⟨h1,ab⟩]
theorem n0 {k:Int} {f:Int->Int} (h:0<=k):bV k f=f k:=by unfold bV;rw [if_neg V]
theorem D4 {α:Type} [GT α] {a:List α} {i:Nat} (h:i<a.length):a.drop i=el a i::a.drop (i+1):=by
  rw [hK h,List.drop_eq_getElem_cons h]
theorem lO {α:Type} [GT α] {xs:List α} {i k:Nat} {y:α} (e:¬i=k):el (xs.set k y) i=el xs i:=by
  unfold el;rw [List.getD_eq_getElem?_getD,List.getD_eq_getElem?_getD,List.getElem?_set_ne (fun h=>e h.symm)]
class dN (α:Type) where
  he:α->Int->(Int->Int)->Int
section
variable {α:Type} [dN α]
def ej:List α->Int->(Int->Int)->Int
  |[],k,f=>f k
  |x::r,k,f=>dN.he x k fun k=>ej r k f
def aB (xs:List α) (k:Int):Int:=ej xs k id
instance:dN Int:=⟨b0⟩
instance:dN Bool:=⟨db⟩
instance:dN (List α):=⟨fun x k f=>bV (aB x k) f⟩
theorem kT (x:List α) (k:Int) (f:Int->Int):dN.he x k f=bV (aB x k) f:=rfl
theorem p1 (x k:Int) (f:Int->Int):dN.he x k f=b0 x k f:=rfl
theorem pX (x:Bool) (k:Int) (f:Int->Int):dN.he x k f=db x k f:=rfl
theorem mR (xs d:List α) (k:Int) (f:Int->Int):ej (xs++d) k f=ej xs k fun k=>ej d k f:=by
  induction xs generalizing k with
  |nil=>rfl
  |cons x r A=>simp only [List.cons_append,ej,A]
theorem eK [GT α] {a:List α} {i:Nat} {j:Int} {f:Int->Int} (h:i<a.length):ej (a.drop i) j f=dN.he (el a i) j fun k=>ej (a.drop (i+1)) k f:=by
  rw [D4 h];rfl
theorem jS {a:List α} {i:Nat} {j:Int} (h:a.length<=i):ej (a.drop i) j id=j:=by
  rw [List.drop_of_length_le h];rfl
theorem qV [GT α] {aT:List α} {i:Nat} {k j d:Int} (h:i<aT.length) (l:∀f,ej (aT.take i) k f=f j) (he:∀f,dN.he (el aT i) j f=f d):∀f,ej (aT.take (i+1)) k f=f d:=by
  intro f;rw [eS h,mR,l];exact he f
theorem qU {aT:List α} {i:Nat} {k j:Int} (h:aT.length<=i) (d:∀f,ej (aT.take i) k f=f j):aB aT k=j:=by
  have:=d id;rwa [cr h] at this
end
theorem eM {α:Type} {xs:List α} {k:Nat} {y:α}:(xs.set k y).take k=xs.take k:=by
  rw [List.take_set_of_le (Nat.le_refl _)]
theorem eb {α:Type} {xs:List α} {k:Nat} {y:α}:(xs.set k y).drop (k+1)=xs.drop (k+1):=by
  rw [List.drop_set_of_lt (Nat.lt_succ_self _)]
theorem kD {α:Type} {xs d:List α} {k:Nat} (h:xs.drop k=d.drop k):xs.drop (k+1)=d.drop (k+1):=by
  rw [←List.drop_drop,←List.drop_drop,h]
theorem kE {α:Type} [GT α] {xs d:List α} {k:Nat} (h:xs.drop k=d.drop k):el xs k=el d k:=by
  have e:(xs.drop k)[0]? =(d.drop k)[0]? :=by rw [h]
  rw [List.getElem?_drop,List.getElem?_drop,Nat.add_zero] at e;unfold el;rw [List.getD_eq_getElem?_getD,List.getD_eq_getElem?_getD,e]
instance:dN aw:=⟨fun x k f=>b0 x.Z k fun k=>b0 x.IU k fun k=>f k⟩
theorem p4 (x:aw) (k:Int) (f:Int->Int):dN.he x k f=b0 x.Z k fun k=>b0 x.IU k fun k=>f k:=rfl
instance:dN aG:=⟨fun x k f=>b0 x.bm k fun k=>b0 x.Z k fun k=>b0 x.dc k fun k=>b0 x.IU k fun k=>f k⟩
theorem pY (x:aG) (k:Int) (f:Int->Int):dN.he x k f=b0 x.bm k fun k=>b0 x.Z k fun k=>b0 x.dc k fun k=>b0 x.IU k fun k=>f k:=rfl
instance:dN bS:=⟨fun x k f=>b0 x.I5 k fun k=>b0 x.x k fun k=>f k⟩
theorem p0 (x:bS) (k:Int) (f:Int->Int):dN.he x k f=b0 x.I5 k fun k=>b0 x.x k fun k=>f k:=rfl
instance:dN cj:=⟨fun x k f=>b0 x.aK k fun k=>b0 x.post k fun k=>db x.I6 k fun k=>f k⟩
instance:dN bn:=⟨fun x k f=>b0 x.aO k fun k=>b0 x.Z k fun k=>db x.b2 k fun k=>b0 x.n k fun k=>f k⟩
instance:dN eo:=⟨fun x k f=>b0 x.aO k fun k=>b0 x.m k fun k=>b0 x.g k fun k=>b0 x.x k fun k=>b0 x.y k fun k=>b0 x.z k fun k=>f k⟩
instance:dN bP:=⟨fun x k f=>db x.ok k fun k=>b0 x.n k fun k=>f k⟩
instance:dN a6:=⟨fun x k f=>bV (aB x.IN k) fun k=>bV (aB x.IT k) fun k=>f k⟩
theorem p2 (x:a6) (k:Int) (f:Int->Int):dN.he x k f=bV (aB x.IN k) fun k=>bV (aB x.IT k) fun k=>f k:=rfl
def Ik (x:a6) (k:Int):Int:=bV (aB x.IN k) fun k=>bV (aB x.IT k) fun k=>k
instance:dN ai:=⟨fun x k f=>bV (aB x.prog k) fun k=>b0 x.aT k fun k=>b0 x.ar k fun k=>bV (aB x.II k) fun k=>bV (aB x.IF k) fun k=>b0 x.IJ.aK k fun k=>b0 x.IJ.post k fun k=>db x.IJ.I6 k fun k=>b0 x.IA k fun k=>b0 x.exit.aO k fun k=>b0 x.exit.Z k fun k=>db x.exit.b2 k fun k=>b0 x.exit.n k fun k=>db x.IX k fun k=>bV (aB x.IM k) fun k=>f k⟩
theorem pZ (x:ai) (k:Int) (f:Int->Int):dN.he x k f=bV (aB x.prog k) fun k=>b0 x.aT k fun k=>b0 x.ar k fun k=>bV (aB x.II k) fun k=>bV (aB x.IF k) fun k=>b0 x.IJ.aK k fun k=>b0 x.IJ.post k fun k=>db x.IJ.I6 k fun k=>b0 x.IA k fun k=>b0 x.exit.aO k fun k=>b0 x.exit.Z k fun k=>db x.exit.b2 k fun k=>b0 x.exit.n k fun k=>db x.IX k fun k=>bV (aB x.IM k) fun k=>f k:=rfl
def Ij (x:ai) (k:Int):Int:=bV (aB x.prog k) fun k=>bV (aB x.II k) fun k=>bV (aB x.IF k) fun k=>bV (aB x.IM k) fun k=>k
instance:dN ay:=⟨fun x k f=>bV (aB x.ad k) fun k=>bV (aB x.out k) fun k=>bV (aB x.IK k) fun k=>bV (aB x.L k) fun k=>bV (aB x.ID k) fun k=>b0 x.IA k fun k=>b0 x.aK k fun k=>bV (aB x.Iz k) fun k=>b0 x.owned k fun k=>f k⟩
theorem p3 (x:ay) (k:Int) (f:Int->Int):dN.he x k f=bV (aB x.ad k) fun k=>bV (aB x.out k) fun k=>bV (aB x.IK k) fun k=>bV (aB x.L k) fun k=>bV (aB x.ID k) fun k=>b0 x.IA k fun k=>b0 x.aK k fun k=>bV (aB x.Iz k) fun k=>b0 x.owned k fun k=>f k:=rfl
def Il (x:ay) (k:Int):Int:=bV (aB x.ad k) fun k=>bV (aB x.out k) fun k=>bV (aB x.IK k) fun k=>bV (aB x.L k) fun k=>bV (aB x.ID k) fun k=>bV (aB x.Iz k) fun k=>k
instance:dN aI:=⟨fun x k f=>bV (aB x.Iy k) fun k=>bV (aB x.L k) fun k=>bV (aB x.ID k) fun k=>b0 x.IA k fun k=>f k⟩
def Ii (x:aI) (k:Int):Int:=bV (aB x.Iy k) fun k=>bV (aB x.L k) fun k=>bV (aB x.ID k) fun k=>k
instance:dN aa:=⟨fun x k f=>bV (aB x.Iy k) fun k=>bV (aB x.H k) fun k=>bV (aB x.IB k) fun k=>bV (aB x.IC k) fun k=>f k⟩
def hS (x:aa) (k:Int):Int:=bV (aB x.Iy k) fun k=>bV (aB x.H k) fun k=>bV (aB x.IB k) fun k=>bV (aB x.IC k) fun k=>k
theorem xV (k:Int) (d:0<=k):∀n:Nat,k+1*(n:Int)<=4611686018427387904->∀f,ej (hP n k) k f=f (k+1*(n:Int))
  |
    0,_,f=>by
    show f k=_
    congr 1;omega
  |n+1,h,f=>by
    have e:hP (n+1) k=hP n k++[mO (k+1*(n:Int))]:=by
      unfold hP;rw [List.range_succ,List.map_append];rfl
    rw [e,mR,xV k d n V];show dN.he (mO (k+1*(n:Int))) (k+1*(n:Int)) f=_;generalize l:k+1*(n:Int)=j;simp (disch:=first|omega|rfl) only [p1,mO,jU,jT,Int.add_assoc,Int.reduceAdd]
    congr 1;omega
theorem xS (k:Int) (d:0<=k):∀n:Nat,k+1*(n:Int)<=4611686018427387904->∀f,ej (hO n k) k f=f (k+1*(n:Int))
  |
    0,_,f=>by
    show f k=_
    congr 1;omega
  |n+1,h,f=>by
    have e:hO (n+1) k=hO n k++[mL (k+1*(n:Int))]:=by
      unfold hO;rw [List.range_succ,List.map_append];rfl
    rw [e,mR,xS k d n V];show dN.he (mL (k+1*(n:Int))) (k+1*(n:Int)) f=_;generalize l:k+1*(n:Int)=j;simp (disch:=first|omega|rfl) only [pX,mL,jU,jT,Int.add_assoc,Int.reduceAdd]
    congr 1;omega
theorem xW (k:Int) (d:0<=k):∀n:Nat,k+2*(n:Int)<=4611686018427387904->∀f,ej (hg n k) k f=f (k+2*(n:Int))
  |
    0,_,f=>by
    show f k=_
    congr 1;omega
  |n+1,h,f=>by
    have e:hg (n+1) k=hg n k++[mP (k+2*(n:Int))]:=by
      unfold hg;rw [List.range_succ,List.map_append];rfl
    rw [e,mR,xW k d n V];show dN.he (mP (k+2*(n:Int))) (k+2*(n:Int)) f=_;generalize l:k+2*(n:Int)=j;simp (disch:=first|omega|rfl) only [p4,mP,jU,jT,Int.add_assoc,Int.reduceAdd]
    congr 1;omega
theorem xT (k:Int) (d:0<=k):∀n:Nat,k+4*(n:Int)<=4611686018427387904->∀f,ej (gJ n k) k f=f (k+4*(n:Int))
  |
    0,_,f=>by
    show f k=_
    congr 1;omega
  |n+1,h,f=>by
    have e:gJ (n+1) k=gJ n k++[mM (k+4*(n:Int))]:=by
      unfold gJ;rw [List.range_succ,List.map_append];rfl
    rw [e,mR,xT k d n V];show dN.he (mM (k+4*(n:Int))) (k+4*(n:Int)) f=_;generalize l:k+4*(n:Int)=j;simp (disch:=first|omega|rfl) only [pY,mM,jU,jT,Int.add_assoc,Int.reduceAdd]
    congr 1;omega
theorem xU (k:Int) (d:0<=k):∀n:Nat,k+2*(n:Int)<=4611686018427387904->∀f,ej (hf n k) k f=f (k+2*(n:Int))
  |
    0,_,f=>by
    show f k=_
    congr 1;omega
  |n+1,h,f=>by
    have e:hf (n+1) k=hf n k++[mN (k+2*(n:Int))]:=by
      unfold hf;rw [List.range_succ,List.map_append];rfl
    rw [e,mR,xU k d n V];show dN.he (mN (k+2*(n:Int))) (k+2*(n:Int)) f=_;generalize l:k+2*(n:Int)=j;simp (disch:=first|omega|rfl) only [p0,mN,jU,jT,Int.add_assoc,Int.reduceAdd]
    congr 1;omega
section
variable {w0:World} {M:ah} {u:World} {N:ah}
theorem af.focus {α d:Type} [GT α] [GT d] {xs:List α} {p:ak α} {F:ah} (o:af w0 M u N F xs p) {k:Nat} (hk:k<xs.length) (f:α->d) (l:GT.Ptr α->GT.Ptr d) (t:α->d->α) (w:GT.Ptr α->GT.Ptr d->GT.Ptr α)
    (z:∀(A:ah) (u:World) (x:α) (r:GT.Ptr α),GT.own a2 A u x r->∃B:ah,GT.own a2 B u (f x) (l r)/\(∀b,B b->A b)/\∀(C:World) (y:d) (q:GT.Ptr d),GT.own a2 B C y q->(∀b,A b->¬B b->C.heap[b]? =u.heap[b]?)->GT.cells y q=GT.cells (f x) (l r)->GT.own a2 A C (t x y) (w r q)/\GT.cells (t x y) (w r q)=GT.cells x r):
    ∃B:ah,af w0 M u N B (f (el xs k)) (l (p.2 k))/\(∀b,B b->F b)/\∀(C:World) (D:ah) (y:d) (q:GT.Ptr d),(∀b,N b->¬B b->D b/\C.heap[b]? =u.heap[b]?)->af w0 M C D B y q->GT.cells y q=GT.cells (f (el xs k)) (l (p.2 k))->
      ∃G,af w0 M C D F (xs.set k (t (el xs k) y)) (p.1,G):=by
  have G:dS a2 F u xs p:=o.own;obtain⟨A,H,I,J⟩:=G.el;obtain⟨B,h1,ab,aq⟩:=z (A k) u (el xs k) (p.2 k) (H k hk);have K:∀b,B b->F b:=fun b hb=>(I k hk b (ab b hb)).1;refine⟨B,⟨h1,fun b hb=>o.sub b (K b hb),fun b hb=>o.I1 b (K b hb)⟩,K,fun C D y q L O hc=>?_⟩;have D:∀b,F b->¬B b->C.heap[b]? =u.heap[b]? :=fun b hb bc=>(L b (o.sub b hb) bc).2;have K:=G.cap;have K:p.1.nil=false:=G.J4 V;have P:¬B p.1.b:=fun hb=>(I k hk _ (ab _ hb)).2 rfl;have Q:F p.1.b:=(G.row K).1;obtain⟨R,T⟩:=aq C y q O.own (fun b hb bc=>D b (I k hk b hb).1 bc) hc;refine⟨fun i=>if i=k then w (p.2 k) q else p.2 i,⟨?_,?_,o.I1⟩⟩
  · show dS a2 F C _ _;refine⟨by rw [List.length_set];exact G.le,by rw [List.length_set];exact G.cap,G.JD,G.null,fun K=>⟨(G.row K).1,?_⟩,fun i U=>?_,A,fun i U=>?_,?_,?_⟩
    · rw [D _ Q P];exact(G.row K).2
    · rw [List.length_set] at U;have A:fR C p.1.b (p.1.off+i*GT.width α) (GT.cells (el xs i) (p.2 i)):=(G.cell i U).JO (D _ Q P);by_cases e:i=k
      · subst e;rw [b4 U];simp only [if_true];rw [T];exact A
      · rw [lO e];simp only [if_neg e];exact A
    · rw [List.length_set] at U;by_cases e:i=k
      · subst e;rw [b4 U];simp only [if_true];exact R
      · rw [lO e];simp only [if_neg e];exact GT.bh (H i U) fun b hb _=>D b (I i U b hb).1 fun A=>J i k U hk e b hb (ab b A)
    · intro i U;rw [List.length_set] at U;exact I i U
    · intro i j U C;rw [List.length_set] at U C;exact J i j U C
  · intro b hb;by_cases A:B b
    · exact O.sub b A
    · exact(L b (o.sub b hb) A).1
theorem EE {d:Type} [GT d] {xs:List d} {p:ak d} {F:ah} (o:af w0 M u N F xs p) {k:Nat} (hk:k<xs.length):
    ∃
      f:ah,af w0 M u N f (el xs k) (p.2 k)/\(∀b,f b->F b)/\∀(l:World) (r:ah) (y:d) (q:GT.Ptr d),(∀b,N b->¬f b->r b/\l.heap[b]? =u.heap[b]?)->af w0 M l r f y q->GT.cells y q=GT.cells (el xs k) (p.2 k)->
      ∃A,af w0 M l r F (xs.set k y) (p.1,A):=
  o.focus hk (fun x=>x) (fun A=>A) (fun _ y=>y) (fun _ q=>q) fun B u x A h=>⟨B,h,fun _ A=>A,fun _ _ _ B _ hc=>⟨B,hc⟩⟩
theorem Ev {xs:List a6} {p:ak a6} {F:ah} (o:af w0 M u N F xs p) {k:Nat} (hk:k<xs.length):
    ∃
      d:ah,af w0 M u N d (el xs k).IN (p.2 k).IN/\(∀b,d b->F b)/\∀(f:World) (l:ah) (y:List Bool) (q:GT.Ptr (List Bool)),(∀b,N b->¬d b->l b/\f.heap[b]? =u.heap[b]?)->af w0 M f l d y q->GT.cells y q=GT.cells (el xs k).IN (p.2 k).IN->
      ∃A,af w0 M f l F (xs.set k {el xs k with IN:=y}) (p.1,A):=
  o.focus hk (fun x=>x.IN) (fun A=>A.IN) (fun x y=>{x with IN:=y}) (fun A q=>{A with IN:=q}) fun B u x A h=>by
    obtain⟨B,C,D,G,s⟩:=h;refine⟨B,D,s.sub _ aM,fun f y q H I hc=>⟨⟨B,C,H,GT.bh G fun b hb _=>I b (s.sub _ aM b hb) fun B=>(bz s.IY (i:=0) (j:=1) (by decide) rfl rfl) b B hb,s⟩,?_⟩⟩;have e:=(List.cons.inj hc).1;show [J y.length q.1,J x.IT.length A.IT.1]=[J x.IN.length A.IN.1,J x.IT.length A.IT.1];rw [e]
theorem Ew {xs:List a6} {p:ak a6} {F:ah} (o:af w0 M u N F xs p) {k:Nat} (hk:k<xs.length):
    ∃
      d:ah,af w0 M u N d (el xs k).IT (p.2 k).IT/\(∀b,d b->F b)/\∀(f:World) (l:ah) (y:List aw) (q:GT.Ptr (List aw)),(∀b,N b->¬d b->l b/\f.heap[b]? =u.heap[b]?)->af w0 M f l d y q->GT.cells y q=GT.cells (el xs k).IT (p.2 k).IT->
      ∃A,af w0 M f l F (xs.set k {el xs k with IT:=y}) (p.1,A):=
  o.focus hk (fun x=>x.IT) (fun A=>A.IT) (fun x y=>{x with IT:=y}) (fun A q=>{A with IT:=q}) fun B u x A h=>by
    obtain⟨B,C,D,G,s⟩:=h;refine⟨C,G,s.sub _ aM,fun f y q H I hc=>⟨⟨B,C,GT.bh D fun b hb _=>I b (s.sub _ aM b hb) fun B=>(bz s.IY (i:=0) (j:=1) (by decide) rfl rfl) b hb B,H,s⟩,?_⟩⟩;have e:=(List.cons.inj hc).1;show [J x.IN.length A.IN.1,J y.length q.1]=[J x.IN.length A.IN.1,J x.IT.length A.IT.1];rw [e]
theorem Es {xs:List ai} {p:ak ai} {F:ah} (o:af w0 M u N F xs p) {k:Nat} (hk:k<xs.length):
    ∃
      d:ah,af w0 M u N d (el xs k).prog (p.2 k).prog/\(∀b,d b->F b)/\∀(f:World) (l:ah) (y:List bS) (q:GT.Ptr (List bS)),(∀b,N b->¬d b->l b/\f.heap[b]? =u.heap[b]?)->af w0 M f l d y q->GT.cells y q=GT.cells (el xs k).prog (p.2 k).prog->
      ∃A,af w0 M f l F (xs.set k {el xs k with prog:=y}) (p.1,A):=
  o.focus hk (fun x=>x.prog) (fun A=>A.prog) (fun x y=>{x with prog:=y}) (fun A q=>{A with prog:=q}) fun C u x A h=>by
    obtain⟨C,D,G,H,I,K,L,P,s,Q,R,T,U,W⟩:=h;refine⟨C,I,s.sub _ aM,fun f y q X Y hc=>⟨⟨C,D,G,H,X,GT.bh K fun b hb _=>Y b (s.sub _ aM b hb) fun C=>(bz s.IY (i:=0) (j:=1) (by decide) rfl rfl) b C hb,GT.bh L fun b hb _=>Y b (s.sub _ aM b hb) fun C=>(bz s.IY (i:=0) (j:=2) (by decide) rfl rfl) b C hb,GT.bh P fun b hb _=>Y b (s.sub _ aM b hb) fun C=>(bz s.IY (i:=0) (j:=3) (by decide) rfl rfl) b C hb,s,Q,R,T,U,W⟩,?_⟩⟩;have e:=(List.cons.inj hc).1;show [J y.length q.1,O x.aT,O x.ar,J x.II.length A.II.1,J x.IF.length A.IF.1,O x.IJ.aK,O x.IJ.post,B x.IJ.I6,O x.IA,O x.exit.aO,O x.exit.Z,B x.exit.b2,O x.exit.n,B x.IX,J x.IM.length A.IM.1]=[J x.prog.length A.prog.1,O x.aT,O x.ar,J x.II.length A.II.1,J x.IF.length A.IF.1,O x.IJ.aK,O x.IJ.post,B x.IJ.I6,O x.IA,O x.exit.aO,O x.exit.Z,B x.exit.b2,O x.exit.n,B x.IX,J x.IM.length A.IM.1];rw [e]
theorem Eu {xs:List ai} {p:ak ai} {F:ah} (o:af w0 M u N F xs p) {k:Nat} (hk:k<xs.length):
    ∃
      d:ah,af w0 M u N d (el xs k).II (p.2 k).II/\(∀b,d b->F b)/\∀(f:World) (l:ah) (y:List aw) (q:GT.Ptr (List aw)),(∀b,N b->¬d b->l b/\f.heap[b]? =u.heap[b]?)->af w0 M f l d y q->GT.cells y q=GT.cells (el xs k).II (p.2 k).II->
      ∃A,af w0 M f l F (xs.set k {el xs k with II:=y}) (p.1,A):=
  o.focus hk (fun x=>x.II) (fun A=>A.II) (fun x y=>{x with II:=y}) (fun A q=>{A with II:=q}) fun C u x A h=>by
    obtain⟨C,D,G,H,I,K,L,P,s,Q,R,T,U,W⟩:=h;refine⟨D,K,s.sub _ aM,fun f y q X Y hc=>⟨⟨C,D,G,H,GT.bh I fun b hb _=>Y b (s.sub _ aM b hb) fun C=>(bz s.IY (i:=0) (j:=1) (by decide) rfl rfl) b hb C,X,GT.bh L fun b hb _=>Y b (s.sub _ aM b hb) fun C=>(bz s.IY (i:=1) (j:=2) (by decide) rfl rfl) b C hb,GT.bh P fun b hb _=>Y b (s.sub _ aM b hb) fun C=>(bz s.IY (i:=1) (j:=3) (by decide) rfl rfl) b C hb,s,Q,R,T,U,W⟩,?_⟩⟩;have e:=(List.cons.inj hc).1;show [J x.prog.length A.prog.1,O x.aT,O x.ar,J y.length q.1,J x.IF.length A.IF.1,O x.IJ.aK,O x.IJ.post,B x.IJ.I6,O x.IA,O x.exit.aO,O x.exit.Z,B x.exit.b2,O x.exit.n,B x.IX,J x.IM.length A.IM.1]=[J x.prog.length A.prog.1,O x.aT,O x.ar,J x.II.length A.II.1,J x.IF.length A.IF.1,O x.IJ.aK,O x.IJ.post,B x.IJ.I6,O x.IA,O x.exit.aO,O x.exit.Z,B x.exit.b2,O x.exit.n,B x.IX,J x.IM.length A.IM.1];rw [e]
theorem Er {xs:List ai} {p:ak ai} {F:ah} (o:af w0 M u N F xs p) {k:Nat} (hk:k<xs.length):
    ∃
      d:ah,af w0 M u N d (el xs k).IF (p.2 k).IF/\(∀b,d b->F b)/\∀(f:World) (l:ah) (y:List aw) (q:GT.Ptr (List aw)),(∀b,N b->¬d b->l b/\f.heap[b]? =u.heap[b]?)->af w0 M f l d y q->GT.cells y q=GT.cells (el xs k).IF (p.2 k).IF->
      ∃A,af w0 M f l F (xs.set k {el xs k with IF:=y}) (p.1,A):=
  o.focus hk (fun x=>x.IF) (fun A=>A.IF) (fun x y=>{x with IF:=y}) (fun A q=>{A with IF:=q}) fun C u x A h=>by
    obtain⟨C,D,G,H,I,K,L,P,s,Q,R,T,U,W⟩:=h;refine⟨G,L,s.sub _ aM,fun f y q X Y hc=>⟨⟨C,D,G,H,GT.bh I fun b hb _=>Y b (s.sub _ aM b hb) fun C=>(bz s.IY (i:=0) (j:=2) (by decide) rfl rfl) b hb C,GT.bh K fun b hb _=>Y b (s.sub _ aM b hb) fun C=>(bz s.IY (i:=1) (j:=2) (by decide) rfl rfl) b hb C,X,GT.bh P fun b hb _=>Y b (s.sub _ aM b hb) fun C=>(bz s.IY (i:=2) (j:=3) (by decide) rfl rfl) b C hb,s,Q,R,T,U,W⟩,?_⟩⟩;have e:=(List.cons.inj hc).1;show [J x.prog.length A.prog.1,O x.aT,O x.ar,J x.II.length A.II.1,J y.length q.1,O x.IJ.aK,O x.IJ.post,B x.IJ.I6,O x.IA,O x.exit.aO,O x.exit.Z,B x.exit.b2,O x.exit.n,B x.IX,J x.IM.length A.IM.1]=[J x.prog.length A.prog.1,O x.aT,O x.ar,J x.II.length A.II.1,J x.IF.length A.IF.1,O x.IJ.aK,O x.IJ.post,B x.IJ.I6,O x.IA,O x.exit.aO,O x.exit.Z,B x.exit.b2,O x.exit.n,B x.IX,J x.IM.length A.IM.1];rw [e]
theorem Et {xs:List ai} {p:ak ai} {F:ah} (o:af w0 M u N F xs p) {k:Nat} (hk:k<xs.length):
    ∃
      d:ah,af w0 M u N d (el xs k).IM (p.2 k).IM/\(∀b,d b->F b)/\∀(f:World) (l:ah) (y:List Int) (q:GT.Ptr (List Int)),(∀b,N b->¬d b->l b/\f.heap[b]? =u.heap[b]?)->af w0 M f l d y q->GT.cells y q=GT.cells (el xs k).IM (p.2 k).IM->
      ∃A,af w0 M f l F (xs.set k {el xs k with IM:=y}) (p.1,A):=
  o.focus hk (fun x=>x.IM) (fun A=>A.IM) (fun x y=>{x with IM:=y}) (fun A q=>{A with IM:=q}) fun C u x A h=>by
    obtain⟨C,D,G,H,I,K,L,P,s,Q,R,T,U,W⟩:=h;refine⟨H,P,s.sub _ aM,fun f y q X Y hc=>⟨⟨C,D,G,H,GT.bh I fun b hb _=>Y b (s.sub _ aM b hb) fun C=>(bz s.IY (i:=0) (j:=3) (by decide) rfl rfl) b hb C,GT.bh K fun b hb _=>Y b (s.sub _ aM b hb) fun C=>(bz s.IY (i:=1) (j:=3) (by decide) rfl rfl) b hb C,GT.bh L fun b hb _=>Y b (s.sub _ aM b hb) fun C=>(bz s.IY (i:=2) (j:=3) (by decide) rfl rfl) b hb C,X,s,Q,R,T,U,W⟩,?_⟩⟩;have e:=(List.cons.inj hc).1;show [J x.prog.length A.prog.1,O x.aT,O x.ar,J x.II.length A.II.1,J x.IF.length A.IF.1,O x.IJ.aK,O x.IJ.post,B x.IJ.I6,O x.IA,O x.exit.aO,O x.exit.Z,B x.exit.b2,O x.exit.n,B x.IX,J y.length q.1]=[J x.prog.length A.prog.1,O x.aT,O x.ar,J x.II.length A.II.1,J x.IF.length A.IF.1,O x.IJ.aK,O x.IJ.post,B x.IJ.I6,O x.IA,O x.exit.aO,O x.exit.Z,B x.exit.b2,O x.exit.n,B x.IX,J x.IM.length A.IM.1];rw [e]
theorem Ge {K:Nat} {d:ah} {u:World} {x:ai} {p:bG} {v:Int} (h:GT.own K d u x p) (f:au v):GT.own K d u ({x with aT:=v}:ai) p:=by
  obtain⟨A,B,C,D,F,G,H,I,s,J,L,O,P,Q⟩:=h;exact⟨A,B,C,D,F,G,H,I,s,f,L,O,P,Q⟩
theorem Gg {K:Nat} {d:ah} {u:World} {x:ai} {p:bG} {v:Int} (h:GT.own K d u x p) (f:au v):GT.own K d u ({x with ar:=v}:ai) p:=by
  obtain⟨A,B,C,D,F,G,H,I,s,J,L,O,P,Q⟩:=h;exact⟨A,B,C,D,F,G,H,I,s,J,f,O,P,Q⟩
theorem ri {K:Nat} {d:ah} {u:World} {x:ai} {p:bG} {v:cj} (h:GT.own K d u x p) (f:cY v):GT.own K d u ({x with IJ:=v}:ai) p:=by
  obtain⟨A,B,C,D,F,G,H,I,s,J,L,O,P,Q⟩:=h;exact⟨A,B,C,D,F,G,H,I,s,J,L,f,P,Q⟩
theorem rk {K:Nat} {d:ah} {u:World} {x:ai} {p:bG} {v:Int} (h:GT.own K d u x p) (f:au v):GT.own K d u ({x with IA:=v}:ai) p:=by
  obtain⟨A,B,C,D,F,G,H,I,s,J,L,O,P,Q⟩:=h;exact⟨A,B,C,D,F,G,H,I,s,J,L,O,f,Q⟩
theorem rj {K:Nat} {d:ah} {u:World} {x:ai} {p:bG} {v:bn} (h:GT.own K d u x p) (f:ct v):GT.own K d u ({x with exit:=v}:ai) p:=by
  obtain⟨A,B,C,D,F,G,H,I,s,J,L,O,P,Q⟩:=h;exact⟨A,B,C,D,F,G,H,I,s,J,L,O,P,f⟩
theorem Gf {K:Nat} {d:ah} {u:World} {x:ai} {p:bG} {v:Bool} (h:GT.own K d u x p):GT.own K d u ({x with IX:=v}:ai) p:=by
  obtain⟨A,B,C,D,F,G,H,I,s,J,L,O,P,Q⟩:=h;exact⟨A,B,C,D,F,G,H,I,s,J,L,O,P,Q⟩
theorem EA {xs:List ay} {p:ak ay} {F:ah} (o:af w0 M u N F xs p) {k:Nat} (hk:k<xs.length):
    ∃
      d:ah,af w0 M u N d (el xs k).ad (p.2 k).ad/\(∀b,d b->F b)/\∀(f:World) (l:ah) (y:List aw) (q:GT.Ptr (List aw)),(∀b,N b->¬d b->l b/\f.heap[b]? =u.heap[b]?)->af w0 M f l d y q->GT.cells y q=GT.cells (el xs k).ad (p.2 k).ad->
      ∃A,af w0 M f l F (xs.set k {el xs k with ad:=y}) (p.1,A):=
  o.focus hk (fun x=>x.ad) (fun A=>A.ad) (fun x y=>{x with ad:=y}) (fun A q=>{A with ad:=q}) fun B u x A h=>by
    obtain⟨B,C,D,G,H,I,K,L,P,Q,R,T,s,U,W,X⟩:=h;refine⟨B,K,s.sub _ aM,fun f y q Y d hc=>⟨⟨B,C,D,G,H,I,Y,GT.bh L fun b hb _=>d b (s.sub _ aM b hb) fun B=>(bz s.IY (i:=0) (j:=1) (by decide) rfl rfl) b B hb,GT.bh P fun b hb _=>d b (s.sub _ aM b hb) fun B=>(bz s.IY (i:=0) (j:=2) (by decide) rfl rfl) b B hb,GT.bh Q fun b hb _=>d b (s.sub _ aM b hb) fun B=>(bz s.IY (i:=0) (j:=3) (by decide) rfl rfl) b B hb,GT.bh R fun b hb _=>d b (s.sub _ aM b hb) fun B=>(bz s.IY (i:=0) (j:=4) (by decide) rfl rfl) b B hb,GT.bh T fun b hb _=>d b (s.sub _ aM b hb) fun B=>(bz s.IY (i:=0) (j:=5) (by decide) rfl rfl) b B hb,s,U,W,X⟩,?_⟩⟩;have e:=(List.cons.inj hc).1;show [J y.length q.1,J x.out.length A.out.1,J x.IK.length A.IK.1,J x.L.length A.L.1,J x.ID.length A.ID.1,O x.IA,O x.aK,J x.Iz.length A.Iz.1,O x.owned]=[J x.ad.length A.ad.1,J x.out.length A.out.1,J x.IK.length A.IK.1,J x.L.length A.L.1,J x.ID.length A.ID.1,O x.IA,O x.aK,J x.Iz.length A.Iz.1,O x.owned];rw [e]
theorem Ez {xs:List ay} {p:ak ay} {F:ah} (o:af w0 M u N F xs p) {k:Nat} (hk:k<xs.length):
    ∃
      d:ah,af w0 M u N d (el xs k).out (p.2 k).out/\(∀b,d b->F b)/\∀(f:World) (l:ah) (y:List (List Int)) (q:GT.Ptr (List (List Int))),(∀b,N b->¬d b->l b/\f.heap[b]? =u.heap[b]?)->af w0 M f l d y q->GT.cells y q=GT.cells (el xs k).out (p.2 k).out->
      ∃A,af w0 M f l F (xs.set k {el xs k with out:=y}) (p.1,A):=
  o.focus hk (fun x=>x.out) (fun A=>A.out) (fun x y=>{x with out:=y}) (fun A q=>{A with out:=q}) fun B u x A h=>by
    obtain⟨B,C,D,G,H,I,K,L,P,Q,R,T,s,U,W,X⟩:=h;refine⟨C,L,s.sub _ aM,fun f y q Y d hc=>⟨⟨B,C,D,G,H,I,GT.bh K fun b hb _=>d b (s.sub _ aM b hb) fun B=>(bz s.IY (i:=0) (j:=1) (by decide) rfl rfl) b hb B,Y,GT.bh P fun b hb _=>d b (s.sub _ aM b hb) fun B=>(bz s.IY (i:=1) (j:=2) (by decide) rfl rfl) b B hb,GT.bh Q fun b hb _=>d b (s.sub _ aM b hb) fun B=>(bz s.IY (i:=1) (j:=3) (by decide) rfl rfl) b B hb,GT.bh R fun b hb _=>d b (s.sub _ aM b hb) fun B=>(bz s.IY (i:=1) (j:=4) (by decide) rfl rfl) b B hb,GT.bh T fun b hb _=>d b (s.sub _ aM b hb) fun B=>(bz s.IY (i:=1) (j:=5) (by decide) rfl rfl) b B hb,s,U,W,X⟩,?_⟩⟩;have e:=(List.cons.inj hc).1;show [J x.ad.length A.ad.1,J y.length q.1,J x.IK.length A.IK.1,J x.L.length A.L.1,J x.ID.length A.ID.1,O x.IA,O x.aK,J x.Iz.length A.Iz.1,O x.owned]=[J x.ad.length A.ad.1,J x.out.length A.out.1,J x.IK.length A.IK.1,J x.L.length A.L.1,J x.ID.length A.ID.1,O x.IA,O x.aK,J x.Iz.length A.Iz.1,O x.owned];rw [e]
theorem Ex {xs:List ay} {p:ak ay} {F:ah} (o:af w0 M u N F xs p) {k:Nat} (hk:k<xs.length):
    ∃
      d:ah,af w0 M u N d (el xs k).IK (p.2 k).IK/\(∀b,d b->F b)/\∀(f:World) (l:ah) (y:List Bool) (q:GT.Ptr (List Bool)),(∀b,N b->¬d b->l b/\f.heap[b]? =u.heap[b]?)->af w0 M f l d y q->GT.cells y q=GT.cells (el xs k).IK (p.2 k).IK->
      ∃A,af w0 M f l F (xs.set k {el xs k with IK:=y}) (p.1,A):=
  o.focus hk (fun x=>x.IK) (fun A=>A.IK) (fun x y=>{x with IK:=y}) (fun A q=>{A with IK:=q}) fun B u x A h=>by
    obtain⟨B,C,D,G,H,I,K,L,P,Q,R,T,s,U,W,X⟩:=h;refine⟨D,P,s.sub _ aM,fun f y q Y d hc=>⟨⟨B,C,D,G,H,I,GT.bh K fun b hb _=>d b (s.sub _ aM b hb) fun B=>(bz s.IY (i:=0) (j:=2) (by decide) rfl rfl) b hb B,GT.bh L fun b hb _=>d b (s.sub _ aM b hb) fun B=>(bz s.IY (i:=1) (j:=2) (by decide) rfl rfl) b hb B,Y,GT.bh Q fun b hb _=>d b (s.sub _ aM b hb) fun B=>(bz s.IY (i:=2) (j:=3) (by decide) rfl rfl) b B hb,GT.bh R fun b hb _=>d b (s.sub _ aM b hb) fun B=>(bz s.IY (i:=2) (j:=4) (by decide) rfl rfl) b B hb,GT.bh T fun b hb _=>d b (s.sub _ aM b hb) fun B=>(bz s.IY (i:=2) (j:=5) (by decide) rfl rfl) b B hb,s,U,W,X⟩,?_⟩⟩;have e:=(List.cons.inj hc).1;show [J x.ad.length A.ad.1,J x.out.length A.out.1,J y.length q.1,J x.L.length A.L.1,J x.ID.length A.ID.1,O x.IA,O x.aK,J x.Iz.length A.Iz.1,O x.owned]=[J x.ad.length A.ad.1,J x.out.length A.out.1,J x.IK.length A.IK.1,J x.L.length A.L.1,J x.ID.length A.ID.1,O x.IA,O x.aK,J x.Iz.length A.Iz.1,O x.owned];rw [e]
theorem Ey {xs:List ay} {p:ak ay} {F:ah} (o:af w0 M u N F xs p) {k:Nat} (hk:k<xs.length):
    ∃
      d:ah,af w0 M u N d (el xs k).L (p.2 k).L/\(∀b,d b->F b)/\∀(f:World) (l:ah) (y:List ai) (q:GT.Ptr (List ai)),(∀b,N b->¬d b->l b/\f.heap[b]? =u.heap[b]?)->af w0 M f l d y q->GT.cells y q=GT.cells (el xs k).L (p.2 k).L->
      ∃A,af w0 M f l F (xs.set k {el xs k with L:=y}) (p.1,A):=
  o.focus hk (fun x=>x.L) (fun A=>A.L) (fun x y=>{x with L:=y}) (fun A q=>{A with L:=q}) fun B u x A h=>by
    obtain⟨B,C,D,G,H,I,K,L,P,Q,R,T,s,U,W,X⟩:=h;refine⟨G,Q,s.sub _ aM,fun f y q Y d hc=>⟨⟨B,C,D,G,H,I,GT.bh K fun b hb _=>d b (s.sub _ aM b hb) fun B=>(bz s.IY (i:=0) (j:=3) (by decide) rfl rfl) b hb B,GT.bh L fun b hb _=>d b (s.sub _ aM b hb) fun B=>(bz s.IY (i:=1) (j:=3) (by decide) rfl rfl) b hb B,GT.bh P fun b hb _=>d b (s.sub _ aM b hb) fun B=>(bz s.IY (i:=2) (j:=3) (by decide) rfl rfl) b hb B,Y,GT.bh R fun b hb _=>d b (s.sub _ aM b hb) fun B=>(bz s.IY (i:=3) (j:=4) (by decide) rfl rfl) b B hb,GT.bh T fun b hb _=>d b (s.sub _ aM b hb) fun B=>(bz s.IY (i:=3) (j:=5) (by decide) rfl rfl) b B hb,s,U,W,X⟩,?_⟩⟩;have e:=(List.cons.inj hc).1;show [J x.ad.length A.ad.1,J x.out.length A.out.1,J x.IK.length A.IK.1,J y.length q.1,J x.ID.length A.ID.1,O x.IA,O x.aK,J x.Iz.length A.Iz.1,O x.owned]=[J x.ad.length A.ad.1,J x.out.length A.out.1,J x.IK.length A.IK.1,J x.L.length A.L.1,J x.ID.length A.ID.1,O x.IA,O x.aK,J x.Iz.length A.Iz.1,O x.owned];rw [e]
theorem EB {xs:List ay} {p:ak ay} {F:ah} (o:af w0 M u N F xs p) {k:Nat} (hk:k<xs.length):
    ∃
      d:ah,af w0 M u N d (el xs k).ID (p.2 k).ID/\(∀b,d b->F b)/\∀(f:World) (l:ah) (y:List Int) (q:GT.Ptr (List Int)),(∀b,N b->¬d b->l b/\f.heap[b]? =u.heap[b]?)->af w0 M f l d y q->GT.cells y q=GT.cells (el xs k).ID (p.2 k).ID->
      ∃A,af w0 M f l F (xs.set k {el xs k with ID:=y}) (p.1,A):=
  o.focus hk (fun x=>x.ID) (fun A=>A.ID) (fun x y=>{x with ID:=y}) (fun A q=>{A with ID:=q}) fun B u x A h=>by
    obtain⟨B,C,D,G,H,I,K,L,P,Q,R,T,s,U,W,X⟩:=h;refine⟨H,R,s.sub _ aM,fun f y q Y d hc=>⟨⟨B,C,D,G,H,I,GT.bh K fun b hb _=>d b (s.sub _ aM b hb) fun B=>(bz s.IY (i:=0) (j:=4) (by decide) rfl rfl) b hb B,GT.bh L fun b hb _=>d b (s.sub _ aM b hb) fun B=>(bz s.IY (i:=1) (j:=4) (by decide) rfl rfl) b hb B,GT.bh P fun b hb _=>d b (s.sub _ aM b hb) fun B=>(bz s.IY (i:=2) (j:=4) (by decide) rfl rfl) b hb B,GT.bh Q fun b hb _=>d b (s.sub _ aM b hb) fun B=>(bz s.IY (i:=3) (j:=4) (by decide) rfl rfl) b hb B,Y,GT.bh T fun b hb _=>d b (s.sub _ aM b hb) fun B=>(bz s.IY (i:=4) (j:=5) (by decide) rfl rfl) b B hb,s,U,W,X⟩,?_⟩⟩;have e:=(List.cons.inj hc).1;show [J x.ad.length A.ad.1,J x.out.length A.out.1,J x.IK.length A.IK.1,J x.L.length A.L.1,J y.length q.1,O x.IA,O x.aK,J x.Iz.length A.Iz.1,O x.owned]=[J x.ad.length A.ad.1,J x.out.length A.out.1,J x.IK.length A.IK.1,J x.L.length A.L.1,J x.ID.length A.ID.1,O x.IA,O x.aK,J x.Iz.length A.Iz.1,O x.owned];rw [e]
theorem EC {xs:List ay} {p:ak ay} {F:ah} (o:af w0 M u N F xs p) {k:Nat} (hk:k<xs.length):
    ∃
      d:ah,af w0 M u N d (el xs k).Iz (p.2 k).Iz/\(∀b,d b->F b)/\∀(f:World) (l:ah) (y:List a6) (q:GT.Ptr (List a6)),(∀b,N b->¬d b->l b/\f.heap[b]? =u.heap[b]?)->af w0 M f l d y q->GT.cells y q=GT.cells (el xs k).Iz (p.2 k).Iz->
      ∃A,af w0 M f l F (xs.set k {el xs k with Iz:=y}) (p.1,A):=
  o.focus hk (fun x=>x.Iz) (fun A=>A.Iz) (fun x y=>{x with Iz:=y}) (fun A q=>{A with Iz:=q}) fun B u x A h=>by
    obtain⟨B,C,D,G,H,I,K,L,P,Q,R,T,s,U,W,X⟩:=h;refine⟨I,T,s.sub _ aM,fun f y q Y d hc=>⟨⟨B,C,D,G,H,I,GT.bh K fun b hb _=>d b (s.sub _ aM b hb) fun B=>(bz s.IY (i:=0) (j:=5) (by decide) rfl rfl) b hb B,GT.bh L fun b hb _=>d b (s.sub _ aM b hb) fun B=>(bz s.IY (i:=1) (j:=5) (by decide) rfl rfl) b hb B,GT.bh P fun b hb _=>d b (s.sub _ aM b hb) fun B=>(bz s.IY (i:=2) (j:=5) (by decide) rfl rfl) b hb B,GT.bh Q fun b hb _=>d b (s.sub _ aM b hb) fun B=>(bz s.IY (i:=3) (j:=5) (by decide) rfl rfl) b hb B,GT.bh R fun b hb _=>d b (s.sub _ aM b hb) fun B=>(bz s.IY (i:=4) (j:=5) (by decide) rfl rfl) b hb B,Y,s,U,W,X⟩,?_⟩⟩;have e:=(List.cons.inj hc).1;show [J x.ad.length A.ad.1,J x.out.length A.out.1,J x.IK.length A.IK.1,J x.L.length A.L.1,J x.ID.length A.ID.1,O x.IA,O x.aK,J y.length q.1,O x.owned]=[J x.ad.length A.ad.1,J x.out.length A.out.1,J x.IK.length A.IK.1,J x.L.length A.L.1,J x.ID.length A.ID.1,O x.IA,O x.aK,J x.Iz.length A.Iz.1,O x.owned];rw [e]
theorem oh {K:Nat} {d:ah} {u:World} {x:ay} {p:cA} {v:Int} (h:GT.own K d u x p) (f:au v):GT.own K d u ({x with IA:=v}:ay) p:=by
  obtain⟨A,B,C,D,F,G,H,I,J,L,O,P,s,Q,R,T⟩:=h;exact⟨A,B,C,D,F,G,H,I,J,L,O,P,s,f,R,T⟩
theorem uR {K:Nat} {d:ah} {u:World} {x:ay} {p:cA} {v:Int} (h:GT.own K d u x p) (f:au v):GT.own K d u ({x with aK:=v}:ay) p:=by
  obtain⟨A,B,C,D,F,G,H,I,J,L,O,P,s,Q,R,T⟩:=h;exact⟨A,B,C,D,F,G,H,I,J,L,O,P,s,Q,f,T⟩
theorem uQ {K:Nat} {d:ah} {u:World} {x:ay} {p:cA} {v:Int} (h:GT.own K d u x p) (f:au v):GT.own K d u ({x with owned:=v}:ay) p:=by
  obtain⟨A,B,C,D,F,G,H,I,J,L,O,P,s,Q,R,T⟩:=h;exact⟨A,B,C,D,F,G,H,I,J,L,O,P,s,Q,R,f⟩
theorem D0 {x y:aa} {p q:a1} (d:GT.cells x.Iy p.Iy=GT.cells y.Iy q.Iy) (h1:GT.cells x.H p.H=GT.cells y.H q.H) (ab:GT.cells x.IB p.IB=GT.cells y.IB q.IB) (aq:GT.cells x.IC p.IC=GT.cells y.IC q.IC):GT.cells x p=GT.cells y q:=by
  show [J x.Iy.length p.Iy.1,J x.H.length p.H.1,J x.IB.length p.IB.1,J x.IC.length p.IC.1]=[J y.Iy.length q.Iy.1,J y.H.length q.H.1,J y.IB.length q.IB.1,J y.IC.length q.IC.1];rw [(show J x.Iy.length p.Iy.1=J y.Iy.length q.Iy.1 from(List.cons.inj d).1),(show J x.H.length p.H.1=J y.H.length q.H.1 from(List.cons.inj h1).1),(show J x.IB.length p.IB.1=J y.IB.length q.IB.1 from(List.cons.inj ab).1),(show J x.IC.length p.IC.1=J y.IC.length q.IC.1 from(List.cons.inj aq).1)]
end
def hH {α:Type} [GT α] [al α] (hd:α->Int->Int) (F:ah) (w:World) (p:GT.Ptr α) (x:α) (k:Int) (e:Ending) (w':World):Prop:=
  ∃(y:α) (lU:Int),e= .returned (O lU)/\aW F w w'/\(∃p',GT.cells y p'=GT.cells x p/\GT.own a2 F w' y p')/\hd y k=lU/\k<=lU/\lU<=k+16*(al.ao x:Nat)
section
variable {P:Program} {n:Nat} {w0:World} {M:ah} {u:World} {N:ah} {β:Nat->Nat} {σ:aX} {a:Act} {w:World} {ops:Array Oper} {b1:Act->World->Prop} {Q:Exit->Act->World->Prop}
theorem ag.KW {α:Type} [GT α] [al α] {hd:α->Int->Int} {F:ah} {x:α} {p:GT.Ptr α} {k:Int} (S:ag P n w0 M u N β σ a w) (o:af w0 M u N F x p) {i:Nat} {f:FuncId} {l:List Value} {d:Tmp} (hc:Calls P f l.toArray w (hH hd F w p x k)) (hcall:ep P n ops i σ=some (f,l,d)) (hd':Nat.blt d n=true)
    (K:∀A B C p' y D,ag P n w0 M B C β ⟨(d,.v (O D))::σ.env,σ.aN⟩ A B->(∀b,N b->¬F b->C b/\B.heap[b]? =u.heap[b]?)->af w0 M B C F y p'->GT.cells y p'=GT.cells x p->hd y k=D->k<=D->D<=k+16*(al.ao x:Nat)->b1 A B):wpOp P ops Q i b1 a w:=
  S.call hcall hc fun _ B ⟨y,D,he,A,⟨p',aY,C⟩,h1,ab,aq⟩=>⟨_,he,K _ B _ p' y D ((S.JC A o.sub o.I1).put (j3 hd') (fun _ _ e=>by cases e)) (S.IL A) ⟨C,fun b hb=> .inl (o.sub b hb),o.I1⟩ aY h1 ab aq⟩
theorem jB {α:Type} [GT α] [al α] {hd:α->Int->Int} {F d:ah} {x y:α} {p p':GT.Ptr α} {k f:Int} (S:ag P n w0 F u N β σ a w) (h:hd y k=f) (h1:k<=f) (ab:f<=k+16*(al.ao x:Nat)) (hc:GT.cells y p'=GT.cells x p) (o:af w0 F u N d y p') (hs:∀b,d b->F b):
    hH hd F w0 p x k (.returned (packed [O f])) w:=
  ⟨y,f,rfl,S.I7,⟨p',hc,GT.c5 (GT.bh o.own (fun b hb _=>(S.sep b (o.sub b hb)).2.1)) (Nat.le_refl _) hs⟩,h,h1,ab⟩
end
class ch (α:Type) [GT α] [al α] where
  B:Nat
  Ji:∀{F:ah} {w:World} {x:α} {p:GT.Ptr α},GT.rd a2 F w x p->al.ao x<=B
instance:ch Int:=⟨0,fun _=>Nat.le_refl _⟩
instance:ch Bool:=⟨0,fun _=>Nat.le_refl _⟩
theorem ve {α:Type} [GT α] [al α] {m:Nat}:∀(xs:List α),(∀x,x∈xs->al.ao x<=m)->(xs.map al.ao).sum<=xs.length*m
  |
    [],_=>by simp
  |x::r,h=>by
    have:=ve r fun d f=>h d (List.mem_cons_of_mem _ f);have:=h x List.mem_cons_self;simp only [List.map_cons,List.sum_cons,List.length_cons,Nat.add_mul];omega
instance {α:Type} [GT α] [al α] [b:ch α]:ch (List α):=⟨4194304+4194304*b.B,fun {F w x p} h=>by
  have h1:x.length<=4194304:=ae.le h;have ab:=ve (m:=b.B) x fun y hy=>by
    obtain⟨i,hi,rfl⟩:=List.getElem_of_mem hy;have:=ae.el h i hi;rw [hK hi] at this;exact b.Ji this
  have aq:x.length*b.B<=4194304*b.B:=Nat.mul_le_mul_right _ h1;rw [cg];unfold c1;omega⟩
instance:ch aw:=⟨0,fun _=>Nat.le_refl _⟩
instance:ch aG:=⟨0,fun _=>Nat.le_refl _⟩
instance:ch bS:=⟨0,fun _=>Nat.le_refl _⟩
instance:ch cj:=⟨0,fun _=>Nat.le_refl _⟩
instance:ch bn:=⟨0,fun _=>Nat.le_refl _⟩
instance:ch eo:=⟨0,fun _=>Nat.le_refl _⟩
instance:ch bP:=⟨0,fun _=>Nat.le_refl _⟩
instance:ch a6:=⟨ch.B (List Bool)+ch.B (List aw),fun {F w x p} h=>by
  have e:=jF x;have h0:=ch.Ji (cP.IN (d:=x) h);have h1:=ch.Ji (cP.IT (d:=x) h);omega⟩
instance:ch ai:=⟨ch.B (List bS)+ch.B (List aw)+ch.B (List aw)+ch.B (List Int),fun {F w x p} h=>by
  have e:=jE x;have h0:=ch.Ji (ax.prog (d:=x) h);have h1:=ch.Ji (ax.II (d:=x) h);have ab:=ch.Ji (ax.IF (d:=x) h);have aq:=ch.Ji (ax.IM (d:=x) h);omega⟩
instance:ch ay:=⟨ch.B (List aw)+ch.B (List (List Int))+ch.B (List Bool)+ch.B (List ai)+ch.B (List Int)+ch.B (List a6),fun {F w x p} h=>by
  have e:=fk x;have h0:=ch.Ji (az.ad (d:=x) h);have h1:=ch.Ji (az.out (d:=x) h);have ab:=ch.Ji (az.IK (d:=x) h);have aq:=ch.Ji (az.L (d:=x) h);have bg:=ch.Ji (az.ID (d:=x) h);have kS:=ch.Ji (az.Iz (d:=x) h);omega⟩
instance:ch aI:=⟨ch.B (List (List Int))+ch.B (List ai)+ch.B (List Int),fun {F w x p} h=>by
  have e:=GU x;have h0:=ch.Ji (bI.Iy (d:=x) h);have h1:=ch.Ji (bI.L (d:=x) h);have ab:=ch.Ji (bI.ID (d:=x) h);omega⟩
instance:ch aa:=⟨ch.B (List (List Int))+ch.B (List ay)+ch.B (List aG)+ch.B (List aG),fun {F w x p} h=>by
  have e:=fj x;have h0:=ch.Ji (a4.Iy (d:=x) h);have h1:=ch.Ji (a4.H (d:=x) h);have ab:=ch.Ji (a4.IB (d:=x) h);have aq:=ch.Ji (a4.IC (d:=x) h);omega⟩
end Go.Proofs.YtkggcdhigchepaaGreat
namespace Go.Proofs.YtkggcdhigchepaaGreat
open Go
set_option linter.unusedSimpArgs false
def gE.Jh (p:gE) (a w:Nat):gE:=⟨p.nil,p.b,bif p.cap==a then p.off else p.off+a*w,p.cap-a,p.kl⟩
section
variable {P:Program} {u:World} {N:ah} {α:Type} [GT α] {xs:List α} {p:GT.Ptr (List α)}
theorem oM {i y:Nat} (h:i<=y) (d:BoundsCode) (w:World):(Instr.sliceBound (O i) y d).run P w= .ok i w:=by
  unfold Instr.sliceBound;have:0<=(i:Int)/\(i:Int)<=y:=⟨V,V⟩;simp only [asIntOf,Sem.run_bind,Sem.run_pure,Result.andThen_ok,this,and_self,if_true,Int.toNat_natCast]
theorem Bb {lo hi:Option Value} {a b n c:Nat} (d:lo=none/\a=0\/lo=some (O a)) (f:hi=none/\b=n\/hi=some (O b)) (l:a<=b) (hb:b<=n) (hc:n<=c) (w:World):
    (Instr.sliceBounds true n c lo hi none).run P w= .ok (a,b,c) w:=by
  unfold Instr.sliceBounds;rcases d with⟨rfl,rfl⟩|rfl<;>rcases f with⟨rfl,rfl⟩|rfl
  · simp [Sem.run_bind,Sem.run_pure]
  · simp [Sem.run_bind,Sem.run_pure,oM (show b<=c by omega)]
  · simp [Sem.run_bind,Sem.run_pure,oM l]
  · simp [Sem.run_bind,Sem.run_pure,oM (show b<=c by omega),oM l]
theorem r0 {K:Nat} (h:GT.rd K N u xs p) {t e:TypeId} {lo hi:Option Value} {a b l:Nat} (hl:l=xs.length) (d:lo=none/\a=0\/lo=some (O a)) (f:hi=none/\b=xs.length\/hi=some (O b)) (o:a<=b) (hb:b<=xs.length) (q:P.underlying t=some (.slice e)) (he:eZ P e=some (GT.width α)):
    dn P u N (.fb (Instr.sliceAt t (J l p.1) lo hi none)) (J (b-a) (p.1.Jh a (GT.width α))):=fun r _=>by
  subst hl;have w:=ae.cap h;show(Instr.sliceAt t (.slice p.1.addr xs.length p.1.cap) lo hi none).run P r=_;unfold Instr.sliceAt;simp only [Sem.run_bind,run_underlying q,Result.andThen_ok];unfold Instr.slice;simp only [Sem.run_bind,run_underlying q,Result.andThen_ok,Bb d f o hb w,nq he,Sem.run_pure]
  congr 2
  unfold gE.Jh gE.addr;by_cases A:p.1.cap=a
  · simp [A]
  · have B:(p.1.cap==a)=false:=by simpa using A
    simp only [A,if_false,B,cond_false];cases bc:p.1.nil with
    |false=>simp [Addr.add_mid]
    |true=>
      have:xs.length=0:=by
        rcases Nat.eq_zero_or_pos xs.length with A|A
        · exact A
        · have:=(ae.at_ h A).1;rw [bc] at this;cases this
      have A:a=0:=by omega
      subst A;cases p.1.kl<;>simp [Addr.add]
theorem uX {K:Nat} (h:GT.rd K N u xs p) {a b:Nat} (d:a<=b) (hb:b<=xs.length):GT.rd K N u ((xs.drop a).take (b-a)) ((p.1.Jh a (GT.width α),fun i=>p.2 (a+i)):ak α):=by
  have A:((xs.drop a).take (b-a)).length=b-a:=by simp;omega
  have B:∀i,i<b-a->el ((xs.drop a).take (b-a)) i=el xs (a+i):=fun i C=>by
    unfold el;rw [List.getD_eq_getElem?_getD,List.getD_eq_getElem?_getD,List.getElem?_take_of_lt C,List.getElem?_drop]
  have D:=ae.cap h;have D:=ae.at_ h
  refine⟨by have:=ae.le h;omega,by show _<=p.1.cap-a;omega,fun F=>?_,fun i C=>?_,fun i C=>?_⟩
  · exact D V
  · rw [A] at C;rw [B i C];have D:(p.1.cap==a)=false:=by simp;omega
    have:=ae.cell h (a+i) V;show fR u p.1.b ((bif p.1.cap==a then p.1.off else p.1.off+a*GT.width α)+i*GT.width α) _;rw [D];simp only [cond_false];rw [Nat.add_assoc,←Nat.add_mul];exact this
  · rw [A] at C;rw [B i C];exact ae.el h (a+i) V
end
end Go.Proofs.YtkggcdhigchepaaGreat
namespace Go.Proofs.YtkggcdhigchepaaGreat
open Go
set_option linter.unusedVariables false
theorem gR {F d f Fy:ah} {l:List ah} (s:g7 F l) {i:Nat} (hi:l[i]? =some d) (h1:∀b,f b->d b\/Fy b) (hd:U F Fy):g7 (Or F f) (l.set i f):=by
  have o:∀b,d b->F b:=s.sub d (List.mem_of_getElem? hi);obtain⟨A,B⟩:=List.getElem?_eq_some_iff.1 hi;refine⟨fun C D b hb=>?_,?_⟩
  · rcases List.mem_or_eq_of_mem_set D with h|rfl
    · exact Or.inl (s.sub C h b hb)
    · exact Or.inr hb
  · have C:∀j (D:j<l.length),j≠i->U (l[j]) f:=fun j D G b hb H=>by
      rcases h1 b H with h|h
      · rcases Nat.lt_or_gt_of_ne G with H|I
        · exact List.pairwise_iff_getElem.1 s.IY j i D A H b hb (B▸h)
        · exact List.pairwise_iff_getElem.1 s.IY i j A D I b (B▸h) hb
      · exact hd b (s.sub _ (List.getElem_mem D) b hb) h
    rw [List.pairwise_iff_getElem];intro a c A hc B;rw [List.length_set] at A hc;rw [List.getElem_set,List.getElem_set];by_cases D:i=a
    · rw [if_pos D,if_neg V];exact(C c hc V).symm
    · rw [if_neg D];by_cases G:i=c
      · rw [if_pos G];exact C a A (fun h=>D h.symm)
      · rw [if_neg G];exact List.pairwise_iff_getElem.1 s.IY a c A hc B
section
variable {w0:World} {M:ah} {u:World} {N:ah}
theorem af.JY {α d:Type} [GT α] [GT d] {xs:List α} {p:ak α} {F:ah} (o:af w0 M u N F xs p) {k:Nat} (hk:k<xs.length) (f:α->d) (l:GT.Ptr α->GT.Ptr d) (t:α->d->α) (w:GT.Ptr α->GT.Ptr d->GT.Ptr α)
    (z:∀(A:ah) (u:World) (x:α) (r:GT.Ptr α),GT.own a2 A u x r->∃B:ah,GT.own a2 B u (f x) (l r)/\(∀b,B b->A b)/\∀(C:World) (y:d) (q:GT.Ptr d) (D Fy:ah),GT.own a2 D C y q->(∀b,D b->B b\/Fy b)->U A Fy->(∀b,A b->¬B b->C.heap[b]? =u.heap[b]?)->GT.cells y q=GT.cells (f x) (l r)->GT.own a2 (Or A D) C (t x y) (w r q)/\GT.cells (t x y) (w r q)=GT.cells x r):
    ∃B:ah,af w0 M u N B (f (el xs k)) (l (p.2 k))/\(∀b,B b->F b)/\∀(C:World) (G:ah) (y:d) (q:GT.Ptr d) (D Fy:ah),(∀b,N b->¬B b->G b/\C.heap[b]? =u.heap[b]?)->af w0 M C G D y q->(∀b,D b->B b\/Fy b)->U F Fy->GT.cells y q=GT.cells (f (el xs k)) (l (p.2 k))->
      (∀b,B b->G b)->af w0 M C G (Or F D) (xs.set k (t (el xs k) y)) ((p.1,fun i=>if i=k then w (p.2 k) q else p.2 i):ak α)/\∀j,GT.cells (el (xs.set k (t (el xs k) y)) j) ((fun i=>if i=k then w (p.2 k) q else p.2 i) j)=GT.cells (el xs j) (p.2 j):=by
  have H:dS a2 F u xs p:=o.own;obtain⟨A,I,J,K⟩:=H.el;obtain⟨B,h1,ab,aq⟩:=z (A k) u (el xs k) (p.2 k) (I k hk);have L:∀b,B b->F b:=fun b hb=>(J k hk b (ab b hb)).1;refine⟨B,⟨h1,fun b hb=>o.sub b (L b hb),fun b hb=>o.I1 b (L b hb)⟩,L,fun C G y q D Fy O P Q R hc T=>?_⟩;have G:∀b,F b->¬B b->C.heap[b]? =u.heap[b]? :=fun b hb bc=>(O b (o.sub b hb) bc).2;have L:=H.cap;have L:p.1.nil=false:=H.J4 V;have W:¬B p.1.b:=fun hb=>(J k hk _ (ab _ hb)).2 rfl;have X:F p.1.b:=(H.row L).1;obtain⟨Y,d⟩:=aq C y q D Fy P.own Q (fun b hb aF=>R b (J k hk b hb).1 aF) (fun b hb bc=>G b (J k hk b hb).1 bc) hc;refine⟨⟨?_,?_,fun b hb=>hb.elim (o.I1 b) (P.I1 b)⟩,fun j=>?_⟩
  rotate_right
  · by_cases e:j=k
    · subst e;rw [b4 hk];simp only [if_true];exact d
    · rw [lO e];simp only [if_neg e]
  · show dS a2 (Or F D) C _ _;refine⟨by rw [List.length_set];exact H.le,by rw [List.length_set];exact H.cap,H.JD,H.null,fun L=>⟨Or.inl (H.row L).1,?_⟩,fun i f=>?_,fun i=>if i=k then Or (A k) D else A i,fun i f=>?_,?_,?_⟩
    · rw [G _ X W];exact(H.row L).2
    · rw [List.length_set] at f;have L:fR C p.1.b (p.1.off+i*GT.width α) (GT.cells (el xs i) (p.2 i)):=(H.cell i f).JO (G _ X W);by_cases e:i=k
      · subst e;rw [b4 f];simp only [if_true];rw [d];exact L
      · rw [lO e];simp only [if_neg e];exact L
    · rw [List.length_set] at f;by_cases e:i=k
      · subst e;rw [b4 f];simp only [if_true];exact Y
      · rw [lO e];simp only [if_neg e];exact GT.bh (I i f) fun b hb _=>G b (J i f b hb).1 fun C=>K i k f hk e b hb (ab b C)
    · intro i f;rw [List.length_set] at f;intro b hb;by_cases e:i=k
      · subst e;simp only [if_true] at hb;rcases hb with hb|hb
        · exact⟨Or.inl (J i f b hb).1,(J i f b hb).2⟩
        · refine⟨Or.inr hb,fun G=>?_⟩;rcases Q b hb with h|h
          · exact W (G▸h)
          · exact R _ X (G▸h)
      · simp only [if_neg e] at hb;exact⟨Or.inl (J i f b hb).1,(J i f b hb).2⟩
    · have H:∀i,i<xs.length->i≠k->U (A i) (Or (A k) D):=fun i f A b hb D=>by
        rcases D with D|D
        · exact K i k f hk A b hb D
        · rcases Q b D with h|h
          · exact K i k f hk A b hb (ab b h)
          · exact R b (J i f b hb).1 h
      intro i j f A D;rw [List.length_set] at f A;by_cases I:i=k
      · by_cases G:j=k
        · exact absurd (I.trans G.symm) D
        · simp only [if_pos I,if_neg G];exact(H j A G).symm
      · by_cases G:j=k
        · simp only [if_neg I,if_pos G];exact H i f I
        · simp only [if_neg I,if_neg G];exact K i j f A D
  · intro b hb;rcases hb with hb|hb
    · by_cases C:B b
      · exact T b C
      · exact(O b (o.sub b hb) C).1
    · exact P.sub b hb
theorem af.JX {α d:Type} [GT α] [GT d] {xs:List α} {p:ak α} {F:ah} (o:af w0 M u N F xs p) {k:Nat} (hk:k<xs.length) (f:α->d) (l:GT.Ptr α->GT.Ptr d) (t:α->d->α) (w:GT.Ptr α->GT.Ptr d->GT.Ptr α)
    (z:∀(A:ah) (u:World) (x:α) (r:GT.Ptr α),GT.own a2 A u x r->∃B:ah,GT.own a2 B u (f x) (l r)/\(∀b,B b->A b)/\∀(C:World) (y:d) (q:GT.Ptr d) (D Fy:ah),GT.own a2 D C y q->(∀b,D b->B b\/Fy b)->U A Fy->(∀b,A b->¬B b->C.heap[b]? =u.heap[b]?)->GT.cells y q=GT.cells (f x) (l r)->GT.own a2 (Or A D) C (t x y) (w r q)/\GT.cells (t x y) (w r q)=GT.cells x r):
    ∃B:ah,af w0 M u N B (f (el xs k)) (l (p.2 k))/\(∀b,B b->F b)/\∀(C:World) (A:ah) (y:d) (q:GT.Ptr d) (D Fy:ah),(∀b,N b->¬B b->A b/\C.heap[b]? =u.heap[b]?)->af w0 M C A D y q->(∀b,D b->B b\/Fy b)->U F Fy->GT.cells y q=GT.cells (f (el xs k)) (l (p.2 k))->
      (∀b,B b->A b)->∃G,af w0 M C A (Or F D) (xs.set k (t (el xs k) y)) (p.1,G)/\∀j,GT.cells (el (xs.set k (t (el xs k) y)) j) (G j)=GT.cells (el xs j) (p.2 j):=by
  obtain⟨B,h1,ab,aq⟩:=o.JY hk f l t w z;exact⟨B,h1,ab,fun C A y q D Fy a b c G e H=>⟨_,aq C A y q D Fy a b c G e H⟩⟩
theorem fi {d:Type} [GT d] {xs:List d} {p:ak d} {F:ah} (o:af w0 M u N F xs p) {k:Nat} (hk:k<xs.length):
    ∃
      f:ah,af w0 M u N f (el xs k) (p.2 k)/\(∀b,f b->F b)/\∀(l:World) (r:ah) (y:d) (q:GT.Ptr (d)) (t Fy:ah),(∀b,N b->¬f b->r b/\l.heap[b]? =u.heap[b]?)->af w0 M l r t y q->(∀b,t b->f b\/Fy b)->U F Fy->GT.cells y q=GT.cells (el xs k) (p.2 k)->(∀b,f b->r b)->
      ∃A,af w0 M l r (Or F t) (xs.set k y) (p.1,A)/\∀j,GT.cells (el (xs.set k y) j) (A j)=GT.cells (el xs j) (p.2 j):=
  o.JX hk (fun x=>x) (fun A=>A) (fun _ y=>y) (fun _ q=>q) fun B u x A h=>⟨B,h,fun _ A=>A,fun _ _ _ _ _ B _ _ _ hc=>⟨GT.c5 B (Nat.le_refl _) (fun _ A=>Or.inr A),hc⟩⟩
theorem F9 {K:Nat} {d Fy:ah} {u:World} {x:ai} {p:bG} {l:List aw} {q:GT.Ptr (List aw)} (h:GT.own K d u x p) (hl:GT.own K Fy u l q) (hd:U d Fy):GT.own K (Or d Fy) u ({x with II:=l}:ai) {p with II:=q}:=by
  obtain⟨A,B,C,D,F,G,H,I,s,J,L,O,P,Q⟩:=h;exact⟨A,Fy,C,D,F,hl,H,I,gR s (i:=1) rfl (fun _ A=> .inr A) hd,J,L,O,P,Q⟩
theorem F8 {K:Nat} {d Fy:ah} {u:World} {x:ai} {p:bG} {l:List aw} {q:GT.Ptr (List aw)} (h:GT.own K d u x p) (hl:GT.own K Fy u l q) (hd:U d Fy):GT.own K (Or d Fy) u ({x with IF:=l}:ai) {p with IF:=q}:=by
  obtain⟨A,B,C,D,F,G,H,I,s,J,L,O,P,Q⟩:=h;exact⟨A,B,Fy,D,F,G,hl,I,gR s (i:=2) rfl (fun _ A=> .inr A) hd,J,L,O,P,Q⟩
theorem pH {xs:List ay} {p:ak ay} {F:ah} (o:af w0 M u N F xs p) {k:Nat} (hk:k<xs.length):
    ∃
      d:ah,af w0 M u N d (el xs k).ad (p.2 k).ad/\(∀b,d b->F b)/\∀(f:World) (l:ah) (y:List aw) (q:GT.Ptr (List aw)) (r Fy:ah),(∀b,N b->¬d b->l b/\f.heap[b]? =u.heap[b]?)->af w0 M f l r y q->(∀b,r b->d b\/Fy b)->U F Fy->GT.cells y q=GT.cells (el xs k).ad (p.2 k).ad->(∀b,d b->l b)->
      ∃A,af w0 M f l (Or F r) (xs.set k {el xs k with ad:=y}) (p.1,A)/\∀j,GT.cells (el (xs.set k {el xs k with ad:=y}) j) (A j)=GT.cells (el xs j) (p.2 j):=
  o.JX hk (fun x=>x.ad) (fun A=>A.ad) (fun x y=>{x with ad:=y}) (fun A q=>{A with ad:=q}) fun B u x A h=>by
    obtain⟨B,C,D,G,H,I,K,L,P,Q,R,T,s,W,X,Y⟩:=h;refine⟨B,K,s.sub _ aM,fun f y q r Fy d l t w hc=>⟨⟨r,C,D,G,H,I,d,GT.bh L fun b hb _=>w b (s.sub _ aM b hb) fun B=>(bz s.IY (i:=0) (j:=1) (by decide) rfl rfl) b B hb,GT.bh P fun b hb _=>w b (s.sub _ aM b hb) fun B=>(bz s.IY (i:=0) (j:=2) (by decide) rfl rfl) b B hb,GT.bh Q fun b hb _=>w b (s.sub _ aM b hb) fun B=>(bz s.IY (i:=0) (j:=3) (by decide) rfl rfl) b B hb,GT.bh R fun b hb _=>w b (s.sub _ aM b hb) fun B=>(bz s.IY (i:=0) (j:=4) (by decide) rfl rfl) b B hb,GT.bh T fun b hb _=>w b (s.sub _ aM b hb) fun B=>(bz s.IY (i:=0) (j:=5) (by decide) rfl rfl) b B hb,gR s (i:=0) rfl l t,W,X,Y⟩,?_⟩⟩;have e:=(List.cons.inj hc).1;show [J y.length q.1,J x.out.length A.out.1,J x.IK.length A.IK.1,J x.L.length A.L.1,J x.ID.length A.ID.1,O x.IA,O x.aK,J x.Iz.length A.Iz.1,O x.owned]=[J x.ad.length A.ad.1,J x.out.length A.out.1,J x.IK.length A.IK.1,J x.L.length A.L.1,J x.ID.length A.ID.1,O x.IA,O x.aK,J x.Iz.length A.Iz.1,O x.owned];rw [e]
theorem xw {xs:List ay} {p:ak ay} {F:ah} (o:af w0 M u N F xs p) {k:Nat} (hk:k<xs.length):
    ∃
      d:ah,af w0 M u N d (el xs k).out (p.2 k).out/\(∀b,d b->F b)/\∀(f:World) (l:ah) (y:List (List Int)) (q:GT.Ptr (List (List Int))) (r Fy:ah),(∀b,N b->¬d b->l b/\f.heap[b]? =u.heap[b]?)->af w0 M f l r y q->(∀b,r b->d b\/Fy b)->U F Fy->GT.cells y q=GT.cells (el xs k).out (p.2 k).out->(∀b,d b->l b)->
      ∃A,af w0 M f l (Or F r) (xs.set k {el xs k with out:=y}) (p.1,A)/\∀j,GT.cells (el (xs.set k {el xs k with out:=y}) j) (A j)=GT.cells (el xs j) (p.2 j):=
  o.JX hk (fun x=>x.out) (fun A=>A.out) (fun x y=>{x with out:=y}) (fun A q=>{A with out:=q}) fun B u x A h=>by
    obtain⟨B,C,D,G,H,I,K,L,P,Q,R,T,s,W,X,Y⟩:=h;refine⟨C,L,s.sub _ aM,fun f y q r Fy d l t w hc=>⟨⟨B,r,D,G,H,I,GT.bh K fun b hb _=>w b (s.sub _ aM b hb) fun B=>(bz s.IY (i:=0) (j:=1) (by decide) rfl rfl) b hb B,d,GT.bh P fun b hb _=>w b (s.sub _ aM b hb) fun B=>(bz s.IY (i:=1) (j:=2) (by decide) rfl rfl) b B hb,GT.bh Q fun b hb _=>w b (s.sub _ aM b hb) fun B=>(bz s.IY (i:=1) (j:=3) (by decide) rfl rfl) b B hb,GT.bh R fun b hb _=>w b (s.sub _ aM b hb) fun B=>(bz s.IY (i:=1) (j:=4) (by decide) rfl rfl) b B hb,GT.bh T fun b hb _=>w b (s.sub _ aM b hb) fun B=>(bz s.IY (i:=1) (j:=5) (by decide) rfl rfl) b B hb,gR s (i:=1) rfl l t,W,X,Y⟩,?_⟩⟩;have e:=(List.cons.inj hc).1;show [J x.ad.length A.ad.1,J y.length q.1,J x.IK.length A.IK.1,J x.L.length A.L.1,J x.ID.length A.ID.1,O x.IA,O x.aK,J x.Iz.length A.Iz.1,O x.owned]=[J x.ad.length A.ad.1,J x.out.length A.out.1,J x.IK.length A.IK.1,J x.L.length A.L.1,J x.ID.length A.ID.1,O x.IA,O x.aK,J x.Iz.length A.Iz.1,O x.owned];rw [e]
theorem mH {xs:List ay} {p:ak ay} {F:ah} (o:af w0 M u N F xs p) {k:Nat} (hk:k<xs.length):
    ∃
      d:ah,af w0 M u N d (el xs k).IK (p.2 k).IK/\(∀b,d b->F b)/\∀(f:World) (l:ah) (y:List Bool) (q:GT.Ptr (List Bool)) (r Fy:ah),(∀b,N b->¬d b->l b/\f.heap[b]? =u.heap[b]?)->af w0 M f l r y q->(∀b,r b->d b\/Fy b)->U F Fy->GT.cells y q=GT.cells (el xs k).IK (p.2 k).IK->(∀b,d b->l b)->
      ∃A,af w0 M f l (Or F r) (xs.set k {el xs k with IK:=y}) (p.1,A)/\∀j,GT.cells (el (xs.set k {el xs k with IK:=y}) j) (A j)=GT.cells (el xs j) (p.2 j):=
  o.JX hk (fun x=>x.IK) (fun A=>A.IK) (fun x y=>{x with IK:=y}) (fun A q=>{A with IK:=q}) fun B u x A h=>by
    obtain⟨B,C,D,G,H,I,K,L,P,Q,R,T,s,W,X,Y⟩:=h;refine⟨D,P,s.sub _ aM,fun f y q r Fy d l t w hc=>⟨⟨B,C,r,G,H,I,GT.bh K fun b hb _=>w b (s.sub _ aM b hb) fun B=>(bz s.IY (i:=0) (j:=2) (by decide) rfl rfl) b hb B,GT.bh L fun b hb _=>w b (s.sub _ aM b hb) fun B=>(bz s.IY (i:=1) (j:=2) (by decide) rfl rfl) b hb B,d,GT.bh Q fun b hb _=>w b (s.sub _ aM b hb) fun B=>(bz s.IY (i:=2) (j:=3) (by decide) rfl rfl) b B hb,GT.bh R fun b hb _=>w b (s.sub _ aM b hb) fun B=>(bz s.IY (i:=2) (j:=4) (by decide) rfl rfl) b B hb,GT.bh T fun b hb _=>w b (s.sub _ aM b hb) fun B=>(bz s.IY (i:=2) (j:=5) (by decide) rfl rfl) b B hb,gR s (i:=2) rfl l t,W,X,Y⟩,?_⟩⟩;have e:=(List.cons.inj hc).1;show [J x.ad.length A.ad.1,J x.out.length A.out.1,J y.length q.1,J x.L.length A.L.1,J x.ID.length A.ID.1,O x.IA,O x.aK,J x.Iz.length A.Iz.1,O x.owned]=[J x.ad.length A.ad.1,J x.out.length A.out.1,J x.IK.length A.IK.1,J x.L.length A.L.1,J x.ID.length A.ID.1,O x.IA,O x.aK,J x.Iz.length A.Iz.1,O x.owned];rw [e]
theorem im {xs:List ay} {p:ak ay} {F:ah} (o:af w0 M u N F xs p) {k:Nat} (hk:k<xs.length):
    ∃
      d:ah,af w0 M u N d (el xs k).L (p.2 k).L/\(∀b,d b->F b)/\∀(f:World) (l:ah) (y:List ai) (q:GT.Ptr (List ai)) (r Fy:ah),(∀b,N b->¬d b->l b/\f.heap[b]? =u.heap[b]?)->af w0 M f l r y q->(∀b,r b->d b\/Fy b)->U F Fy->GT.cells y q=GT.cells (el xs k).L (p.2 k).L->(∀b,d b->l b)->
      ∃A,af w0 M f l (Or F r) (xs.set k {el xs k with L:=y}) (p.1,A)/\∀j,GT.cells (el (xs.set k {el xs k with L:=y}) j) (A j)=GT.cells (el xs j) (p.2 j):=
  o.JX hk (fun x=>x.L) (fun A=>A.L) (fun x y=>{x with L:=y}) (fun A q=>{A with L:=q}) fun B u x A h=>by
    obtain⟨B,C,D,G,H,I,K,L,P,Q,R,T,s,W,X,Y⟩:=h;refine⟨G,Q,s.sub _ aM,fun f y q r Fy d l t w hc=>⟨⟨B,C,D,r,H,I,GT.bh K fun b hb _=>w b (s.sub _ aM b hb) fun B=>(bz s.IY (i:=0) (j:=3) (by decide) rfl rfl) b hb B,GT.bh L fun b hb _=>w b (s.sub _ aM b hb) fun B=>(bz s.IY (i:=1) (j:=3) (by decide) rfl rfl) b hb B,GT.bh P fun b hb _=>w b (s.sub _ aM b hb) fun B=>(bz s.IY (i:=2) (j:=3) (by decide) rfl rfl) b hb B,d,GT.bh R fun b hb _=>w b (s.sub _ aM b hb) fun B=>(bz s.IY (i:=3) (j:=4) (by decide) rfl rfl) b B hb,GT.bh T fun b hb _=>w b (s.sub _ aM b hb) fun B=>(bz s.IY (i:=3) (j:=5) (by decide) rfl rfl) b B hb,gR s (i:=3) rfl l t,W,X,Y⟩,?_⟩⟩;have e:=(List.cons.inj hc).1;show [J x.ad.length A.ad.1,J x.out.length A.out.1,J x.IK.length A.IK.1,J y.length q.1,J x.ID.length A.ID.1,O x.IA,O x.aK,J x.Iz.length A.Iz.1,O x.owned]=[J x.ad.length A.ad.1,J x.out.length A.out.1,J x.IK.length A.IK.1,J x.L.length A.L.1,J x.ID.length A.ID.1,O x.IA,O x.aK,J x.Iz.length A.Iz.1,O x.owned];rw [e]
theorem oe {K:Nat} {d Fy:ah} {u:World} {x:ay} {p:cA} {l:List ai} {q:GT.Ptr (List ai)} (h:GT.own K d u x p) (hl:GT.own K Fy u l q) (hd:U d Fy):GT.own K (Or d Fy) u ({x with L:=l}:ay) {p with L:=q}:=by
  obtain⟨A,B,C,D,F,G,H,I,J,L,O,P,s,Q,R,T⟩:=h;exact⟨A,B,C,Fy,F,G,H,I,J,hl,O,P,gR s (i:=3) rfl (fun _ A=> .inr A) hd,Q,R,T⟩
theorem lQ {xs:List ay} {p:ak ay} {F:ah} (o:af w0 M u N F xs p) {k:Nat} (hk:k<xs.length):
    ∃
      d:ah,af w0 M u N d (el xs k).Iz (p.2 k).Iz/\(∀b,d b->F b)/\∀(f:World) (l:ah) (y:List a6) (q:GT.Ptr (List a6)) (r Fy:ah),(∀b,N b->¬d b->l b/\f.heap[b]? =u.heap[b]?)->af w0 M f l r y q->(∀b,r b->d b\/Fy b)->U F Fy->GT.cells y q=GT.cells (el xs k).Iz (p.2 k).Iz->(∀b,d b->l b)->
      ∃A,af w0 M f l (Or F r) (xs.set k {el xs k with Iz:=y}) (p.1,A)/\∀j,GT.cells (el (xs.set k {el xs k with Iz:=y}) j) (A j)=GT.cells (el xs j) (p.2 j):=
  o.JX hk (fun x=>x.Iz) (fun A=>A.Iz) (fun x y=>{x with Iz:=y}) (fun A q=>{A with Iz:=q}) fun B u x A h=>by
    obtain⟨B,C,D,G,H,I,K,L,P,Q,R,T,s,W,X,Y⟩:=h;refine⟨I,T,s.sub _ aM,fun f y q r Fy d l t w hc=>⟨⟨B,C,D,G,H,r,GT.bh K fun b hb _=>w b (s.sub _ aM b hb) fun B=>(bz s.IY (i:=0) (j:=5) (by decide) rfl rfl) b hb B,GT.bh L fun b hb _=>w b (s.sub _ aM b hb) fun B=>(bz s.IY (i:=1) (j:=5) (by decide) rfl rfl) b hb B,GT.bh P fun b hb _=>w b (s.sub _ aM b hb) fun B=>(bz s.IY (i:=2) (j:=5) (by decide) rfl rfl) b hb B,GT.bh Q fun b hb _=>w b (s.sub _ aM b hb) fun B=>(bz s.IY (i:=3) (j:=5) (by decide) rfl rfl) b hb B,GT.bh R fun b hb _=>w b (s.sub _ aM b hb) fun B=>(bz s.IY (i:=4) (j:=5) (by decide) rfl rfl) b hb B,d,gR s (i:=5) rfl l t,W,X,Y⟩,?_⟩⟩;have e:=(List.cons.inj hc).1;show [J x.ad.length A.ad.1,J x.out.length A.out.1,J x.IK.length A.IK.1,J x.L.length A.L.1,J x.ID.length A.ID.1,O x.IA,O x.aK,J y.length q.1,O x.owned]=[J x.ad.length A.ad.1,J x.out.length A.out.1,J x.IK.length A.IK.1,J x.L.length A.L.1,J x.ID.length A.ID.1,O x.IA,O x.aK,J x.Iz.length A.Iz.1,O x.owned];rw [e]
theorem zE {K:Nat} {d Fy:ah} {u:World} {x:aa} {p:a1} {l:List (List Int)} {q:GT.Ptr (List (List Int))} (h:GT.own K d u x p) (hl:GT.own K Fy u l q) (hd:U d Fy):GT.own K (Or d Fy) u ({x with Iy:=l}:aa) {p with Iy:=q}:=by
  obtain⟨A,B,C,D,F,G,H,I,s⟩:=h;exact⟨Fy,B,C,D,hl,G,H,I,gR s (i:=0) rfl (fun _ A=> .inr A) hd⟩
theorem Ep {xs:List aa} {p:ak aa} {F:ah} (o:af w0 M u N F xs p) {k:Nat} (hk:k<xs.length):
    ∃
      d:ah,af w0 M u N d (el xs k).H (p.2 k).H/\(∀b,d b->F b)/\∀(f:World) (l:ah) (y:List ay) (q:GT.Ptr (List ay)) (r Fy:ah),(∀b,N b->¬d b->l b/\f.heap[b]? =u.heap[b]?)->af w0 M f l r y q->(∀b,r b->d b\/Fy b)->U F Fy->GT.cells y q=GT.cells (el xs k).H (p.2 k).H->(∀b,d b->l b)->
      af w0 M f l (Or F r) (xs.set k {el xs k with H:=y}) ((p.1,fun i=>if i=k then({p.2 k with H:=q}:a1) else p.2 i):ak aa):=by
  obtain⟨d,h1,ab,aq⟩:=o.JY hk (fun x=>x.H) (fun t=>t.H) (fun x y=>{x with H:=y}) (fun t q=>{t with H:=q}) fun w u x t h=>by
    obtain⟨A,B,C,D,G,H,I,K,s⟩:=h;refine⟨B,H,s.sub _ aM,fun f y q r Fy L O P Q hc=>⟨⟨A,r,C,D,GT.bh G fun b hb _=>Q b (s.sub _ aM b hb) fun A=>(bz s.IY (i:=0) (j:=1) (by decide) rfl rfl) b hb A,L,GT.bh I fun b hb _=>Q b (s.sub _ aM b hb) fun A=>(bz s.IY (i:=1) (j:=2) (by decide) rfl rfl) b A hb,GT.bh K fun b hb _=>Q b (s.sub _ aM b hb) fun A=>(bz s.IY (i:=1) (j:=3) (by decide) rfl rfl) b A hb,gR s (i:=1) rfl O P⟩,?_⟩⟩;have e:=(List.cons.inj hc).1;show [J x.Iy.length t.Iy.1,J y.length q.1,J x.IB.length t.IB.1,J x.IC.length t.IC.1]=[J x.Iy.length t.Iy.1,J x.H.length t.H.1,J x.IB.length t.IB.1,J x.IC.length t.IC.1];rw [e]
  exact⟨d,h1,ab,fun f l y q r Fy a b c A e B=>(aq f l y q r Fy a b c A e B).1⟩
theorem uG {K:Nat} {d Fy:ah} {u:World} {x:aa} {p:a1} {l:List aG} {q:GT.Ptr (List aG)} (h:GT.own K d u x p) (hl:GT.own K Fy u l q) (hd:U d Fy):GT.own K (Or d Fy) u ({x with IB:=l}:aa) {p with IB:=q}:=by
  obtain⟨A,B,C,D,F,G,H,I,s⟩:=h;exact⟨A,B,Fy,D,F,G,hl,I,gR s (i:=2) rfl (fun _ A=> .inr A) hd⟩
theorem uH {K:Nat} {d Fy:ah} {u:World} {x:aa} {p:a1} {l:List aG} {q:GT.Ptr (List aG)} (h:GT.own K d u x p) (hl:GT.own K Fy u l q) (hd:U d Fy):GT.own K (Or d Fy) u ({x with IC:=l}:aa) {p with IC:=q}:=by
  obtain⟨A,B,C,D,F,G,H,I,s⟩:=h;exact⟨A,B,C,Fy,F,G,H,hl,gR s (i:=3) rfl (fun _ A=> .inr A) hd⟩
end
end Go.Proofs.YtkggcdhigchepaaGreat
namespace Go.Proofs.YtkggcdhigchepaaGreat
open Go
theorem Hm {m:List (List Int)} {p:Int}:al.ao (eI m p)<=4+al.ao m:=by
  unfold eI;split
  · rename_i h;have h1:=rR (xs:=m) (k:=p.toNat) V;have ab:=cg m;omega
  · have:al.ao ([0,0,0,0]:List Int)=4:=by rw [vc];rfl
    omega
def cS (k:a6) (Z:Int):a6:=
  if(0<=Z/\Z<k.IN.length)/\Z<k.IT.length then⟨k.IN.set Z.toNat false,k.IT.set Z.toNat ⟨-1,0⟩⟩ else k
def jP (k:a6) (n:Nat):a6:=(List.range n).foldl (fun k (i:Nat)=>cS k (i:Int)) k
def dF (k:a6):a6:=jP k k.IN.length
theorem s0 (k:a6) (n:Nat):jP k (n+1)=cS (jP k n) (n:Int):=by
  unfold jP;rw [List.range_succ,List.foldl_append];rfl
theorem xE (k:a6) (p:Int):(cS k p).IN.length=k.IN.length/\(cS k p).IT.length=k.IT.length:=by
  unfold cS;split<;>simp
theorem sZ (k:a6) (n:Nat):(jP k n).IN.length=k.IN.length/\(jP k n).IT.length=k.IT.length:=by
  induction n with
  |zero=>exact⟨rfl,rfl⟩
  |succ n d=>
    rw [s0];have:=xE (jP k n) (n:Int);omega
theorem G3 (k:a6):al.ao (dF k)=al.ao k:=by
  have h1:=sZ k k.IN.length;have ab:=jF k;have aq:=jF (dF k);rw [vb,vd] at ab aq;unfold dF at aq ⊢;omega
def ha (m:ay):ay:={m with Iz:=m.Iz.map dF}
def gH (h:aa):aa:=⟨h.Iy,h.H.map ha,[],[]⟩
theorem Aw {α d:Type} [GT α] [al α] [GT d] [al d] {f:α->d} (l:List α) (h:∀x,al.ao (f x)=al.ao x):c1 (l.map f)=c1 l:=by
  induction l with
  |nil=>rfl
  |cons x r A=>rw [List.map_cons,l8,l8,h,A]
theorem GY (m:ay):al.ao (ha m)=al.ao m:=by
  have h1:=fk m;have ab:=fk (ha m);have aq:=cg m.Iz;have bg:=cg (m.Iz.map dF);have d:=Aw m.Iz G3;rw [List.length_map] at bg;have A:(ha m).Iz=m.Iz.map dF:=rfl;have B:(ha m).ad=m.ad:=rfl;have C:(ha m).out=m.out:=rfl;have D:(ha m).IK=m.IK:=rfl;have F:(ha m).L=m.L:=rfl;have G:(ha m).ID=m.ID:=rfl;rw [A,B,C,D,F,G] at ab;omega
theorem GX (h:aa):al.ao (gH h)<=al.ao h:=by
  have h1:=fj h;have ab:=fj (gH h);have aq:=cg h.H;have bg:=cg (h.H.map ha);have d:=Aw h.H GY;rw [List.length_map] at bg;have A:(gH h).H=h.H.map ha:=rfl;have B:(gH h).Iy=h.Iy:=rfl;have C:(gH h).IB=[]:=rfl;have D:(gH h).IC=[]:=rfl;have F:al.ao ([]:List aG)=0:=rfl;rw [A,B,C,D,F] at ab;omega
def c_ (b:aI):Bool:=b.L.all fm&&ey b.Iy 8&&av b.L.length 1 2&&decide (b.ID.length<=40)&&av b.IA 0 255
theorem ko {b:aI} (h:c_ b=true):1<=b.L.length/\b.L.length<=2/\0<=b.IA/\b.IA<=255:=by
  simp only [c_,Bool.and_eq_true] at h;have h1:=bj h.1.1.2;have ab:=bj h.2;omega
def gV (c:cj) (n:Int):Bool:=eF c&&av n 0 7&&(eX (hZ c.post n) 1==1)
def bl (b:aI) (n:Int):List Int:=e7 b.L.length fun i=>gV (el b.L i).IJ n
def bR (p n:Int):Int×Bool:=if av p 0 255=true/\av n 0 7=true then(lZ p (ga 1 n),true) else(p,false)
theorem np {p n:Int} (h:au p):au (bR p n).1:=by
  unfold bR;split
  · exact Fp _ _
  · exact h
def jD (n:Int) (gs:List ai) (g:Int):List ai:=gs.set g.toNat {el gs g.toNat with IA:=(bR (el gs g.toNat).IA n).1}
def dE (b:aI) (n:Int):aI×Bool:=
  if c_ b=true/\0<=n/\n<=7 then
    (⟨b.Iy,(bl b n).foldl (jD n) b.L,b.ID,if(bl b n).length=0 then(bR b.IA n).1 else b.IA⟩,true)
  else(b,false)
theorem EZ {n:Nat} {p:Nat->Bool} {k:Nat}:k<(e7 n p).length->0<=el (e7 n p) k/\el (e7 n p) k<n:=fun h=>by
  rw [hK h];have d:=List.getElem_mem h;unfold e7 at d;obtain⟨i,f,he⟩:=List.mem_map.1 d;have:=List.mem_range.1 (List.mem_filter.1 f).1;unfold e7;omega
theorem zU {b:aI} {n:Int} {k:Nat} (h:0<b.L.length):0<=el (bl b n) k/\el (bl b n) k<b.L.length:=by
  by_cases hk:k<(bl b n).length
  · exact EZ hk
  · have:el (bl b n) k=0:=by
      unfold el;rw [List.getD_eq_getElem?_getD,List.getElem?_eq_none V];rfl
    omega
theorem g9 {r n:Int} (h:cw r n=true):0<=n/\n<=3:=by
  simp only [cw,Bool.and_eq_true] at h;exact bj h.1.2
def aZ (b:aI) (g:Int):ai×Bool:=if 0<=g/\g<b.L.length then(el b.L g.toNat,true) else(⟨[],0,0,[],[],⟨0,0,false⟩,0,⟨0,0,false,0⟩,false,[]⟩,false)
def bk (a:Int):Int:=if a<0 then-1 else Int.tdiv a 4
def b5 (a:Int):Int:=if a<0 then-1 else Int.tmod a 4
theorem h8 {a:Int} (h:au a):au (bk a):=by
  unfold bk;split
  · exact⟨by decide,by decide⟩
  · have h1:=h.1;have ab:=h.2;rw [Int.tdiv_eq_ediv_of_nonneg V];exact⟨V,V⟩
def bD (t:List aw) (Z a7:Int):Int×Bool:=
  if(b9 t Z).Z=-1\/cw (b9 t Z).IU a7=false\/a7=0 then(-1,false) else((b9 t Z).Z,true)
def ei (b:aI) (g:Int):Bool:=c_ b&&av g 0 ((b.L.length:Int)-1)
theorem jw {b:aI} {g:Int} (h:ei b g=true):c_ b=true/\0<=g/\g<b.L.length:=by
  simp only [ei,Bool.and_eq_true] at h;have:=bj h.2;exact⟨h.1,V,V⟩
def py (b:aI) (g addr a7:Int):Int×Bool:=
  if ei b g=true/\av addr 0 15=true then bD (el b.L g.toNat).IF (bk addr) a7 else(-1,false)
def H9 (b:aI) (g addr a7:Int):Int×Int×Bool:=
  if ei b g=true/\av addr 0 15=true then((py b g addr a7).1,b5 addr,(py b g addr a7).2) else(0,0,false)
def mF (m:List (List Int)) (p c:Int):Bool:=decide ((0<=p/\p<m.length)/\0<=c/\c<(el m p.toNat).length)
theorem xP {m:List (List Int)} {p c:Int} (h:mF m p c=true):(0<=p/\p<m.length)/\0<=c/\c<(el m p.toNat).length:=of_decide_eq_true h
theorem xO {m:List (List Int)} {p c:Int} (h:mF m p c=false):¬((0<=p/\p<m.length)/\0<=c/\c<(el m p.toNat).length):=of_decide_eq_false h
def cN (m:List (List Int)) (p c v:Int):List (List Int):=
  if((0<=p/\p<m.length)/\0<=c/\c<(el m p.toNat).length)/\0<=v/\v<=99 then m.set p.toNat ((el m p.toNat).set c.toNat v) else m
def HY (b:aI) (g addr v:Int):aI×Bool:=
  if(py b g addr 2).2=true/\av v 0 99=true then(⟨cN b.Iy (py b g addr 2).1 (b5 addr) v,b.L,b.ID,b.IA⟩,true) else(b,false)
theorem Az {x:Int} (h:au x) (d:0<=x):au (x.tdiv 4):=by
  have h1:=h.1;have ab:=h.2;rw [Int.tdiv_eq_ediv_of_nonneg d];exact⟨V,V⟩
theorem pI {b:aI} {g:Int} (h:(aZ b g).2=true):0<=g/\g<b.L.length:=by
  unfold aZ at h;split at h
  · assumption
  · cases h
theorem xK {b:aI} {g:Int} (h:(aZ b g).2=false):¬(0<=g/\g<b.L.length):=by
  unfold aZ at h;split at h
  · cases h
  · assumption
theorem s4 {b:aI} {g:Int} (h:0<=g/\g<b.L.length):(aZ b g).1=el b.L g.toNat:=by
  unfold aZ;rw [if_pos h]
theorem uf {b:aI} {g:Int} (h1:c_ b=true) (ab:0<=g/\g<b.L.length):ei b g=true:=by
  simp only [ei,h1,Bool.true_and,av,Bool.and_eq_true,decide_eq_true_eq];omega
theorem rH {α:Type} [GT α] {xs:List α} {k:Nat} (h:k<xs.length):xs.set k (el xs k)=xs:=by
  rw [hK h];exact List.set_getElem_self h
theorem rW {α:Type} {xs:List α} {k:Nat} {y:α} (h:k<xs.length):(xs.set k y).take (k+1)=xs.take k++[y]:=by
  rw [List.take_succ_eq_append_getElem (by rw [List.length_set];exact h),List.getElem_set_self,List.take_set_of_le (Nat.le_refl _)]
theorem w5 {m:ay} {tb:List a6} {g:Nat} (aA:m.Iz.length<=g) (d:tb.length=m.Iz.length) (h:tb.take g=(m.Iz.take g).map dF):({m with Iz:=tb}:ay)=ha m:=by
  rw [cr V,cr aA] at h;rw [h];rfl
end Go.Proofs.YtkggcdhigchepaaGreat
namespace Go.Proofs.YtkggcdhigchepaaGreat
open Go
set_option linter.unusedVariables false
theorem an {p:Prop} (h:p:=by kernel_rfl):p:=h
variable {P:Program} {n:Nat} {w0:World} {M:ah} {u:World} {N:ah} {β:Nat->Nat} {σ:aX} {a:Act} {w:World} {ops:Array Oper} {Q:Exit->Act->World->Prop}
theorem ag.q (S:ag P n w0 M u N β σ a w) {i:Nat} (k:Nat) (keep:List Nat) (m:Nat) (σ':aX) {claims:List (Ask×Value)} (d:cm P u N claims) (K:∀f l β',ag P n w0 M u N β' σ' f l->e3 P ops Q (i+k) f l)
    (A:gA P n ops i k σ (claims.map (·.2)) keep m=some (σ',claims):=by kernel_rfl):e3 P ops Q i a w:=S.quiet d A K
theorem ag.c (S:ag P n w0 M u N β σ a w) {c:Operand} {x y:Code} (e:Bool) (d:e=true->x.wp P Q a w) (aF:e=false->y.wp P Q a w) (he:σ.get c=some (.v (.bool e)):=by kernel_rfl):(Code.cond c x y).wp P Q a w:=S.cond he d aF
theorem ag.r (S:ag P n w0 M u N β σ a w) {d:Func} {R:Ending->World->Prop} (f:List Value) (h:R (.returned (packed f)) w) (l:iD P σ d.results.toList=some f:=by kernel_rfl):bodyPost P d R .ret a w:=S.ret l h
theorem ag.f (S:ag P n w0 M u N β σ a w) {d:Func} {R:Ending->World->Prop} (l:List Value) (h:R (.returned (packed l)) w) (o:iD P σ d.results.toList=some l:=by kernel_rfl):bodyPost P d R .normal a w:=S.KC o h
theorem ag.p (S:ag P n w0 M u N β σ a w) (keep:List Nat) (m:Nat) (σ':aX) (h:jz σ keep m=some σ':=by kernel_rfl):ag P n w0 M u N β σ' a w:=S.prune h
theorem ag.call3 {α:Type} [GT α] {l:Act->World->Prop} (S:ag P n w0 M u N β σ a w) {i:Nat} {f:FuncId} {o:List Value} {d:Tmp} {r:α} {r':Int} {t:Bool} (hc:Calls P f o.toArray w (g6 I w r r' t)) (hcall:ep P n ops i σ=some (f,o,d)) (hd:Nat.blt d n=true)
    (K:∀A C D q F,ag P n w0 M C D β ⟨(d,.v (.tuple #[GT.val r q,O r',B t]))::σ.env,σ.aN⟩ A C->(∀b,N b->D b/\C.heap[b]? =u.heap[b]?)->af w0 M C D F r q->U N F->au r'->l A C):wpOp P ops Q i l a w:=
  S.call hcall hc fun _ C ⟨q,A,D,F,he,G,H,J,L,aF⟩=>⟨_,he,K _ C _ q F (S.after hd G) (S.up G)
    ⟨H,fun b h=> .inr (aF b h),fun b h=> .inl (Nat.le_trans S.I7.size (aF b h).1)⟩ (U.fresh S C fun b h=>aF b h) J⟩
def eY:List Nat->Nat->Bool
  |[],_=>false
  |s::r,t=>bif Nat.beq s t then true else eY r t
def xQ:Env->Nat->Bool
  |[],_=>false
  |(s,_)::r,t=>bif Nat.beq s t then true else xQ r t
def iV:Env->List Nat->Env->List Nat
  |[],_,_=>[]
  |(t,_)::r,br,new=>bif eY br t then iV r br new else bif xQ new t then iV r br new else t::iV r br new
def fA:Env->List Nat
  |[]=>[]
  |(s,_)::r=>s::fA r
def vB:List (List Value)->List (Nat×List Value)->List (List Value)
  |b,[]=>b
  |b,(k,c)::r=>vB (bif Nat.blt k b.length then b.set k c else b++[c]) r
def aX.dl (σ:aX) (br:List Nat) (new:Env) (m:Nat) (gg:List (Nat×List Value)):aX:=⟨σ.keep m (iV σ.env br new)++new,(vB σ.aN gg).take m⟩
theorem ag.La (S:ag P n w0 M u N β σ a w) {i:Nat} (k:Nat) (br:List Nat) (d:Env) {claims:List (Ask×Value)} (f:cm P u N claims)
    (K:∀l o β',ag P n w0 M u N β' (σ.dl br d 1000 []) l o->Q .normal l o)
    (q:gA P n ops i k σ (claims.map (·.2)) (iV σ.env br d++fA d) 1000=some (σ.dl br d 1000 [],claims):=by kernel_rfl) (hi:Nat.ble ops.size (i+k)=true:=by kernel_rfl):e3 P ops Q i a w:=S.quiet f q fun l o β' A=>e3.done hi (K l o β' A)
theorem ag.z (S:ag P n w0 M u N β σ a w) {σ':aX} (h:jz σ (fA σ'.env) σ'.aN.length=some σ':=by kernel_rfl):ag P n w0 M u N β σ' a w:=S.prune h
theorem uy {id:Nat} (h:Q .normal a w):Exit.inBlock id Q .normal a w:=h
theorem rd {i:Nat} (h:Q .normal a w) (hi:Nat.ble ops.size i=true:=by rfl):e3 P ops Q i a w:=e3.done hi h
theorem b2 (h:Q .ret a w):Code.ret.wp P Q a w:=wp_ret h
theorem lF (h:Q .normal a w):Code.skip.wp P Q a w:=wp_skip h
abbrev aD (x:Int):Int:=IntKind.i64.wrap (x+1)
section
variable {α:Type} [GT α] {xs:List α} {p:ak α} {K:Nat}
theorem a5 (h:GT.rd K N u xs p) (k:Nat) {l:Nat} {t e:TypeId} (d:P.underlying t=some (.slice e)) (hl:l=xs.length:=by rfl) (hi:k<xs.length:=by omega) (he:eZ P e=some (GT.width α):=by kernel_rfl):
    dn P u N (.idx t (J l p.1) (O (k:Int))) (aL p.1.b (p.1.off+k*GT.width α)):=cv h hl rfl hi d he
theorem aS (h:GT.rd K N u xs p) (i:Int) {l:Nat} {t e:TypeId} (d:P.underlying t=some (.slice e)) (hl:l=xs.length:=by rfl) (hk:i=(i.toNat:Int):=by omega) (hi:i.toNat<xs.length:=by omega) (he:eZ P e=some (GT.width α):=by kernel_rfl):
    dn P u N (.idx t (J l p.1) (O i)) (aL p.1.b (p.1.off+i.toNat*GT.width α)):=cv h hl hk hi d he
theorem bx (h:GT.rd K N u xs p) (t:TypeId) (k:Nat) (hi:k<xs.length:=by omega) (d:GT.agg α=false:=by rfl) (f:gu P t=some false:=by kernel_rfl):
    dn P u N (.load t (aL p.1.b (p.1.off+k*GT.width α))) (GT.val (el xs k) (p.2 k)):=cK h hi d f
theorem bF (h:GT.rd K N u xs p) (t:TypeId) (k:Nat) (hi:k<xs.length:=by omega) (aA:GT.agg α=true:=by rfl) (d:gu P t=some true:=by kernel_rfl) (hs:eZ P t=some (GT.width α):=by kernel_rfl):
    dn P u N (.load t (aL p.1.b (p.1.off+k*GT.width α))) (GT.val (el xs k) (p.2 k)):=ea h hi aA d hs
theorem a8 (h:GT.rd K N u xs p) (t:TypeId) (k j:Nat) (v:Value) (hi:k<xs.length:=by omega) (d:(GT.cells (el xs k) (p.2 k))[j]? =some v:=by kernel_rfl) (f:gu P t=some false:=by kernel_rfl):
    dn P u N (.load t (aL p.1.b (p.1.off+k*GT.width α+j))) v:=dC h hi d f
theorem bf (x y:Int) (h:au (x+y):=by exact⟨V,V⟩):dn P u N (.int .add .i64 x y) (O (x+y)):=AS h
theorem dd (x y:Int) (h:au (x-y):=by exact⟨V,V⟩):dn P u N (.int .sub .i64 x y) (O (x-y)):=AU h
theorem ag.lf {l:Act->World->Prop} (S:ag P n w0 M u N β σ a w) {i:Nat} {f:FuncId} {o:List Value} (d:Tmp) {r:α} (hc:Calls P f o.toArray w (bO I w r))
    (K:∀t y z q F,ag P n w0 M y z β ⟨(d,.v (GT.val r q))::σ.env,σ.aN⟩ t y->(∀b,N b->z b/\y.heap[b]? =u.heap[b]?)->af w0 M y z F r q->U N F->l t y)
    (hcall:ep P n ops i σ=some (f,o,d):=by kernel_rfl) (hd:Nat.blt d n=true:=by rfl):wpOp P ops Q i l a w:=S.Kl hc hcall hd K
end
abbrev aE {α:Type} [GT α] (w0:World) (x:α) (p:GT.Ptr α):Prop:=GT.rd a2 (cp w0.heap.size) w0 x p
theorem bu {p:Prop} (h:p:=by first|omega|(simp;done)|(simp;omega)):p:=h
theorem bB {p:Prop} (h:p:=by clear S;first|omega|(simp [*];done)|(simp [*];omega)):p:=h
end Go.Proofs.YtkggcdhigchepaaGreat
namespace Go.Proofs.YtkggcdhigchepaaGreat
open Go
def ba {α:Type} [GT α] (b:Nat) (p:GT.Ptr α):ak α:=(⟨false,b,0,1,none⟩,fun _=>p)
def mJ (k b:Nat):cy->cy
  | .p j o=>bif Nat.beq j k then .v (aL b o) else .p (bif Nat.blt k j then j-1 else j) o
  | .v x=> .v x
def kP (k b:Nat):Env->Env
  |[]=>[]
  |(t,s)::r=>(t,mJ k b s)::kP k b r
theorem n7 {k b t:Nat}:∀(e:Env),look (kP k b e) t=(look e t).map (mJ k b)
  |
    []=>rfl
  |(s,x)::r=>by
    simp only [kP,iw];split
    · rfl
    · exact n7 r
def aX.Jx (σ:aX) (k b:Nat):aX:=⟨kP k b σ.env,σ.aN.eraseIdx k⟩
section
variable {P:Program} {n:Nat} {w0:World} {M:ah} {u:World} {N:ah} {β:Nat->Nat} {σ:aX} {a:Act} {w:World} {ops:Array Oper} {b1:Act->World->Prop} {Q:Exit->Act->World->Prop}
theorem ag.Jx (S:ag P n w0 M u N β σ a w) {d:Prop} {α:Type} [GT α] (k:Nat) (x:α) (p:GT.Ptr α) (hx:GT.own a2 I w x p)
    (K:∀(β':Nat->Nat) (f:ah) (b:Nat) (F:ah),ag P n w0 M w f β' (σ.Jx k b) a w->(∀b,N b->f b/\w.heap[b]? =u.heap[b]?)->af w0 M w f F [x] (ba b p)->U N F->d)
    (hk:σ.aN[k]? =some (GT.cells x p):=by kernel_rfl):d:=by
  have A:k<σ.aN.length:=(List.getElem?_eq_some_iff.1 hk).1;obtain⟨B,C⟩:=S.box k _ hk;have hb:β k<w.heap.size:=by
    rcases Nat.lt_or_ge (β k) w.heap.size with D|D
    · exact D
    · rw [Array.getElem?_eq_none D] at C;cases C
  have G:(σ.aN.eraseIdx k).length=σ.aN.length-1:=List.length_eraseIdx_of_lt A;have H:∀i,i<(σ.aN.eraseIdx k).length->(bif Nat.blt i k then i else i+1)<σ.aN.length/\(bif Nat.blt i k then i else i+1)≠k:=fun i J=>by
    rw [G] at J;cases h:Nat.blt i k with
    |true=>have:=(Nat.le_of_ble_eq_true h:i+1<=k);exact⟨by simp only [cond_true];omega,by simp only [cond_true];omega⟩
    |false=>
      have:¬i<k:=fun L=>by rw [show Nat.blt i k=true from Nat.ble_eq_true_of_le L] at h;cases h
      exact⟨by simp only [cond_false];omega,by simp only [cond_false];omega⟩
  have O:=GT.len x p;refine K (fun i=>β (bif Nat.blt i k then i else i+1)) (fun b=>N b\/b=β k) (β k) (fun b=>b=β k) ⟨S.Jt,S.ao,fun R s T=>?_,fun R i W T=>?_,fun i X J=>?_,fun i j J Y h=>?_,fun i J=>?_,fun b d=>?_,S.I7,fun b d f=>?_⟩ (fun b d=>⟨.inl d,(S.sep b d).2.1⟩) ⟨?_,fun b h=> .inr h,fun b h=>?_⟩ (fun b h1 ab=>?_)
  · rw [show(σ.Jx k (β k)).env=kP k (β k) σ.env from rfl,n7] at T;cases hs:look σ.env R with
    |
      none=>rw [hs] at T;cases T
    |some l=>
      rw [hs] at T;simp only [Option.map_some,Option.some.injEq] at T;subst T;rw [S.env R l hs]
      congr 1
      cases l with
      |v x=>rfl
      |p j W=>
        simp only [mJ];cases he:Nat.beq j k with
        |true=>rw [Nat.eq_of_beq_eq_true he];rfl
        |false=>
          have W:j≠k:=fun e=>by rw [e,Nat.beq_refl] at he;cases he
          simp only [cond_false,cy.val];cases D:Nat.blt k j with
          |true=>
            have h1:k<j:=Nat.le_of_ble_eq_true D;have ab:Nat.blt (j-1) k=false:=by
              cases aq:Nat.blt (j-1) k with
              |false=>rfl
              |true=>have:=(Nat.le_of_ble_eq_true aq:j-1+1<=k);omega
            simp only [cond_true,ab,cond_false];rw [show j-1+1=j by omega]
          |false=>
            have h1:¬k<j:=fun L=>by rw [show Nat.blt k j=true from Nat.ble_eq_true_of_le L] at D;cases D
            have ab:Nat.blt j k=true:=Nat.ble_eq_true_of_le (by omega:j+1<=k);simp only [cond_false,ab,cond_true]
  · rw [show(σ.Jx k (β k)).env=kP k (β k) σ.env from rfl,n7] at T;show i<(σ.aN.eraseIdx k).length;cases hs:look σ.env R with
    |
      none=>rw [hs] at T;cases T
    |some l=>
      rw [hs] at T;simp only [Option.map_some,Option.some.injEq] at T;cases l with
      |v x=>cases T
      |p j l=>
        have Y:=S.ok R j l hs;simp only [mJ] at T;cases he:Nat.beq j k with
        |true=>rw [he] at T;cases T
        |false=>
          have W:j≠k:=fun e=>by rw [e,Nat.beq_refl] at he;cases he
          rw [he] at T;simp only [cond_false,cy.p.injEq] at T;rw [G,←T.1];cases D:Nat.blt k j with
          |true=>simp only [cond_true];have:=(Nat.le_of_ble_eq_true D:k+1<=j);omega
          |false=>
            have h1:¬k<j:=fun L=>by rw [show Nat.blt k j=true from Nat.ble_eq_true_of_le L] at D;cases D
            simp only [cond_false];omega
  · have D:(σ.aN.eraseIdx k)[i]? =some X:=J;rw [List.getElem?_eraseIdx] at D;cases h:Nat.blt i k with
    |
      true=>
      rw [if_pos (show i<k from Nat.le_of_ble_eq_true h)] at D;obtain⟨G,R⟩:=S.box i X D;exact⟨G,by simpa only [h,cond_true] using R⟩
    |false=>
      have:¬i<k:=fun L=>by rw [show Nat.blt i k=true from Nat.ble_eq_true_of_le L] at h;cases h
      rw [if_neg this] at D;obtain⟨G,R⟩:=S.box (i+1) X D;exact⟨G,by simpa only [h,cond_false] using R⟩
  · have e:=S.inj _ _ (H i J).1 (H j Y).1 h;have D:=(H i J).2;have G:=(H j Y).2
    revert e D G
    cases h1:Nat.blt i k<;>cases ab:Nat.blt j k<;>simp only [cond_true,cond_false]<;>intro e D G
    · omega
    · have:=(Nat.le_of_ble_eq_true ab:j+1<=k);have:¬i<k:=fun L=>by rw [show Nat.blt i k=true from Nat.ble_eq_true_of_le L] at h1;cases h1
      omega
    · have:=(Nat.le_of_ble_eq_true h1:i+1<=k);have:¬j<k:=fun L=>by rw [show Nat.blt j k=true from Nat.ble_eq_true_of_le L] at ab;cases ab
      omega
    · exact e
  · exact S.new _ (H i J).1
  · rcases d with h|h
    · exact⟨(S.sep b h).1,rfl,fun i J=>(S.sep b h).2.2 _ (H i J).1⟩
    · subst h;exact⟨hb,rfl,fun i J e=>(H i J).2 (S.inj _ _ (H i J).1 A e)⟩
  · have h:=S.fZ b d f;exact⟨.inl h.1,(S.sep b h.1).2.1.trans h.2⟩
  · show dS a2 _ w [x] (ba (β k) p);refine⟨by simp [a2],Nat.le_refl _,by simp [ba],fun h=>(by cases h),fun _=>⟨rfl,_,B,C,by simp [ba,O]⟩,fun i J=>?_,⟨fun _=>I,fun i J=>?_,fun _ _ _ h=>False.elim h,fun i j J Y B=>by simp at J Y;omega⟩⟩
    · have e:i=0:=by simp at J;exact J
      subst e;intro j v Y;have hc:w.cell? ⟨β k,0+0*GT.width α+j,none⟩=some v:=by
        unfold World.cell?;rw [C];have B:(GT.cells x p)[j]? =some v:=Y;simp [B]
      exact hc
    · have e:i=0:=by simp at J;exact J
      subst e;exact hx
  · subst h;exact S.new k A
  · subst ab;exact(S.sep _ h1).2.2 k A rfl
theorem ag.K0 (S:ag P n w0 M u N β σ a w) {d:Prop} {α:Type} [GT α] (k:Nat) {x:α} {p:GT.Ptr α} {f:ah} (hx:af w0 M u N f x p)
    (K:∀(β':Nat->Nat) (l:ah) (b:Nat) (F:ah),ag P n w0 M w l β' (σ.Jx k b) a w->(∀b,N b->l b/\w.heap[b]? =u.heap[b]?)->af w0 M w l F [x] (ba b p)->(∀o:ah,U o f->(∀b,o b->N b)->U o F)->d)
    (hk:σ.aN[k]? =some (GT.cells x p):=by kernel_rfl):d:=by
  have A:k<σ.aN.length:=(List.getElem?_eq_some_iff.1 hk).1;obtain⟨B,C⟩:=S.box k _ hk;have hb:β k<w.heap.size:=by
    rcases Nat.lt_or_ge (β k) w.heap.size with D|D
    · exact D
    · rw [Array.getElem?_eq_none D] at C;cases C
  have G:(σ.aN.eraseIdx k).length=σ.aN.length-1:=List.length_eraseIdx_of_lt A;have H:∀i,i<(σ.aN.eraseIdx k).length->(bif Nat.blt i k then i else i+1)<σ.aN.length/\(bif Nat.blt i k then i else i+1)≠k:=fun i I=>by
    rw [G] at I;cases h:Nat.blt i k with
    |true=>have:=(Nat.le_of_ble_eq_true h:i+1<=k);exact⟨by simp only [cond_true];omega,by simp only [cond_true];omega⟩
    |false=>
      have:¬i<k:=fun J=>by rw [show Nat.blt i k=true from Nat.ble_eq_true_of_le J] at h;cases h
      exact⟨by simp only [cond_false];omega,by simp only [cond_false];omega⟩
  have L:=GT.len x p;refine K (fun i=>β (bif Nat.blt i k then i else i+1)) (fun b=>N b\/b=β k) (β k) (fun b=>b=β k\/f b) ⟨S.Jt,S.ao,fun O s R=>?_,fun O i T R=>?_,fun i W I=>?_,fun i j I X h=>?_,fun i I=>?_,fun b Y=>?_,S.I7,fun b Y d=>?_⟩ (fun b Y=>⟨.inl Y,(S.sep b Y).2.1⟩) ⟨?_,fun b h=>h.elim .inr (fun h=> .inl (hx.sub b h)),fun b h=>?_⟩ (fun o l q b h1 ab=>?_)
  · rw [show(σ.Jx k (β k)).env=kP k (β k) σ.env from rfl,n7] at R;cases hs:look σ.env O with
    |
      none=>rw [hs] at R;cases R
    |some o=>
      rw [hs] at R;simp only [Option.map_some,Option.some.injEq] at R;subst R;rw [S.env O o hs]
      congr 1
      cases o with
      |v x=>rfl
      |p j T=>
        simp only [mJ];cases he:Nat.beq j k with
        |true=>rw [Nat.eq_of_beq_eq_true he];rfl
        |false=>
          have T:j≠k:=fun e=>by rw [e,Nat.beq_refl] at he;cases he
          simp only [cond_false,cy.val];cases D:Nat.blt k j with
          |true=>
            have h1:k<j:=Nat.le_of_ble_eq_true D;have ab:Nat.blt (j-1) k=false:=by
              cases aq:Nat.blt (j-1) k with
              |false=>rfl
              |true=>have:=(Nat.le_of_ble_eq_true aq:j-1+1<=k);omega
            simp only [cond_true,ab,cond_false];rw [show j-1+1=j by omega]
          |false=>
            have h1:¬k<j:=fun J=>by rw [show Nat.blt k j=true from Nat.ble_eq_true_of_le J] at D;cases D
            have ab:Nat.blt j k=true:=Nat.ble_eq_true_of_le (by omega:j+1<=k);simp only [cond_false,ab,cond_true]
  · rw [show(σ.Jx k (β k)).env=kP k (β k) σ.env from rfl,n7] at R;show i<(σ.aN.eraseIdx k).length;cases hs:look σ.env O with
    |
      none=>rw [hs] at R;cases R
    |some o=>
      rw [hs] at R;simp only [Option.map_some,Option.some.injEq] at R;cases o with
      |v x=>cases R
      |p j o=>
        have X:=S.ok O j o hs;simp only [mJ] at R;cases he:Nat.beq j k with
        |true=>rw [he] at R;cases R
        |false=>
          have T:j≠k:=fun e=>by rw [e,Nat.beq_refl] at he;cases he
          rw [he] at R;simp only [cond_false,cy.p.injEq] at R;rw [G,←R.1];cases D:Nat.blt k j with
          |true=>simp only [cond_true];have:=(Nat.le_of_ble_eq_true D:k+1<=j);omega
          |false=>
            have h1:¬k<j:=fun J=>by rw [show Nat.blt k j=true from Nat.ble_eq_true_of_le J] at D;cases D
            simp only [cond_false];omega
  · have D:(σ.aN.eraseIdx k)[i]? =some W:=I;rw [List.getElem?_eraseIdx] at D;cases h:Nat.blt i k with
    |
      true=>
      rw [if_pos (show i<k from Nat.le_of_ble_eq_true h)] at D;obtain⟨G,O⟩:=S.box i W D;exact⟨G,by simpa only [h,cond_true] using O⟩
    |false=>
      have:¬i<k:=fun J=>by rw [show Nat.blt i k=true from Nat.ble_eq_true_of_le J] at h;cases h
      rw [if_neg this] at D;obtain⟨G,O⟩:=S.box (i+1) W D;exact⟨G,by simpa only [h,cond_false] using O⟩
  · have e:=S.inj _ _ (H i I).1 (H j X).1 h;have D:=(H i I).2;have G:=(H j X).2
    revert e D G
    cases h1:Nat.blt i k<;>cases ab:Nat.blt j k<;>simp only [cond_true,cond_false]<;>intro e D G
    · omega
    · have:=(Nat.le_of_ble_eq_true ab:j+1<=k);have:¬i<k:=fun J=>by rw [show Nat.blt i k=true from Nat.ble_eq_true_of_le J] at h1;cases h1
      omega
    · have:=(Nat.le_of_ble_eq_true h1:i+1<=k);have:¬j<k:=fun J=>by rw [show Nat.blt j k=true from Nat.ble_eq_true_of_le J] at ab;cases ab
      omega
    · exact e
  · exact S.new _ (H i I).1
  · rcases Y with h|h
    · exact⟨(S.sep b h).1,rfl,fun i I=>(S.sep b h).2.2 _ (H i I).1⟩
    · subst h;exact⟨hb,rfl,fun i I e=>(H i I).2 (S.inj _ _ (H i I).1 A e)⟩
  · have h:=S.fZ b Y d;exact⟨.inl h.1,(S.sep b h.1).2.1.trans h.2⟩
  · show dS a2 _ w [x] (ba (β k) p);refine⟨by simp [a2],Nat.le_refl _,by simp [ba],fun h=>(by cases h),fun _=>⟨.inl rfl,_,B,C,by simp [ba,L]⟩,fun i I=>?_,⟨fun _=>f,fun i I=>?_,fun _ _ b h=>⟨.inr h,fun e=>(S.sep b (hx.sub b h)).2.2 k A e.symm⟩,fun i j I X B=>by simp at I X;omega⟩⟩
    · have e:i=0:=by simp at I;exact I
      subst e;intro j v X;have hc:w.cell? ⟨β k,0+0*GT.width α+j,none⟩=some v:=by
        unfold World.cell?;rw [C];have B:(GT.cells x p)[j]? =some v:=X;simp [B]
      exact hc
    · have e:i=0:=by simp at I;exact I
      subst e;exact S.I2 hx
  · rcases h with h|h
    · subst h;exact S.new k A
    · exact hx.I1 b h
  · rcases ab with ab|ab
    · subst ab;exact(S.sep _ (q _ h1)).2.2 k A rfl
    · exact l b h1 ab
theorem ag.JV {α:Type} [GT α] {K:Nat} {d:ah} {x:α} {p:GT.Ptr α} (S:ag P n w0 M u N β σ a w) (h:GT.rd K d w0 x p) (f:∀b,d b->b<w0.heap.size/\¬M b):GT.rd K N u x p:=
  GT.cq (GT.de h (fun b hb _=>(S.fZ b (f b hb).1 (f b hb).2).2)) (Nat.le_refl _) (fun b hb=>(S.fZ b (f b hb).1 (f b hb).2).1)
theorem af.lF {M':ah} {α:Type} [GT α] {F:ah} {x:α} {p:GT.Ptr α} (h:af w0 I u N F x p):af w0 M' u N F x p:=
  ⟨h.own,h.sub,fun b hb=> .inl ((h.I1 b hb).resolve_right id)⟩
def gy {α:Type} [GT α] (jJ F:ah) (w:World) (r:α) (e:Ending) (w':World):Prop:=
  ∃q e1,e= .returned (GT.val r q)/\aW jJ w w'/\GT.own a2 e1 w' r q/\∀b,e1 b->F b\/(w.heap.size<=b/\b<w'.heap.size)
theorem ag.KT {α l:Type} [GT α] [GT l] {F:ah} {x:α} {p:GT.Ptr α} (S:ag P n w0 M u N β σ a w) (o:af w0 M u N F x p) {i:Nat} {f:FuncId} {t:List Value} {d:Tmp} {r:l} (hc:Calls P f t.toArray w (gy I F w r))
    (K:∀A B C q D,ag P n w0 M B C β ⟨(d,.v (GT.val r q))::σ.env,σ.aN⟩ A B->(∀b,N b->C b/\B.heap[b]? =u.heap[b]?)->af w0 M B C D r q->(∀G:ah,U G F->(∀b,G b->N b)->U G D)->b1 A B)
    (hcall:ep P n ops i σ=some (f,t,d):=by kernel_rfl) (hd:Nat.blt d n=true:=by kernel_rfl):wpOp P ops Q i b1 a w:=
  S.call hcall hc fun _ B ⟨q,D,he,A,C,aF⟩=>⟨_,he,K _ B _ q D (S.after hd A) (S.up A)
    ⟨C,fun b h=>(aF b h).elim (fun h=> .inl (o.sub b h)) .inr,fun b h=>(aF b h).elim (o.I1 b) (fun h=> .inl (Nat.le_trans S.I7.size h.1))⟩
    (fun G A B b h1 ab=>(aF b ab).elim (A b h1) (fun h=>by have:=(S.sep b (B b h1)).1;omega))⟩
theorem ag.Ky {α l:Type} [GT α] [GT l] {F:ah} {x:α} {p:GT.Ptr α} (S:ag P n w0 M u N β σ a w) (o:af w0 M u N F x p) {i:Nat} {f:FuncId} {t:List Value} {d:Tmp} {r:l} (hc:Calls P f t.toArray w (gy F F w r))
    (K:∀A B C q D,ag P n w0 M B C β ⟨(d,.v (GT.val r q))::σ.env,σ.aN⟩ A B->(∀b,N b->¬F b->C b/\B.heap[b]? =u.heap[b]?)->af w0 M B C D r q->(∀G:ah,U G F->(∀b,G b->N b)->U G D)->b1 A B)
    (hcall:ep P n ops i σ=some (f,t,d):=by kernel_rfl) (hd:Nat.blt d n=true:=by kernel_rfl):wpOp P ops Q i b1 a w:=
  S.call hcall hc fun _ B ⟨q,D,he,A,C,aF⟩=>⟨_,he,K _ B _ q D ((S.JC A o.sub o.I1).put (j3 hd) (fun _ _ e=>by cases e)) (S.IL A)
    ⟨C,fun b h=>(aF b h).elim (fun h=> .inl (o.sub b h)) .inr,fun b h=>(aF b h).elim (o.I1 b) (fun h=> .inl (Nat.le_trans S.I7.size h.1))⟩
    (fun G A B b h1 ab=>(aF b ab).elim (A b h1) (fun h=>by have:=(S.sep b (B b h1)).1;omega))⟩
theorem ag.KV {α l:Type} [GT α] [GT l] {F:ah} {x:α} {p:GT.Ptr α} (S:ag P n w0 M u N β σ a w) (o:af w0 M u N F x p) {i:Nat} {f:FuncId} {t:List Value} {d:Tmp} {r y:l} (hY:y=r) (hc:Calls P f t.toArray w (gy F F w r))
    (K:∀A B C q D,ag P n w0 M B C β ⟨(d,.v (GT.val y q))::σ.env,σ.aN⟩ A B->(∀b,N b->¬F b->C b/\B.heap[b]? =u.heap[b]?)->af w0 M B C D y q->(∀G:ah,U G F->(∀b,G b->N b)->U G D)->b1 A B)
    (hcall:ep P n ops i σ=some (f,t,d):=by kernel_rfl) (hd:Nat.blt d n=true:=by kernel_rfl):wpOp P ops Q i b1 a w:=by
  subst hY;exact S.Ky o hc K hcall hd
theorem hA {α:Type} [GT α] {F d:ah} {r x:α} {p:GT.Ptr α} {v:Value} (S:ag P n w0 M u N β σ a w) (h:r=x) (f:v=GT.val x p) (o:af w0 F u N d x p):gy M F w0 r (.returned (packed [v])) w:=by
  subst h f;exact⟨p,d,rfl,S.I7,GT.bh o.own (fun b hb _=>(S.sep b (o.sub b hb)).2.1),fun b hb=>(o.I1 b hb).elim (fun h=> .inr ⟨h,(S.sep b (o.sub b hb)).1⟩) .inl⟩
theorem ag.K3 {α:Type} [GT α] {x:α} {p:GT.Ptr α} (S:ag P n w0 I u N β σ a w) (h:GT.rd a2 (cp w0.heap.size) w0 x p):GT.rd a2 (fun b=>b<w0.heap.size) w x p:=
  GT.de h (fun b hb _=>S.I7.block b hb id)
def nB {α g4 oE:Type} [GT α] [GT g4] [GT oE] (F:ah) (a5:ak oE) (w:World) (r:α) (r':g4) (n':oE) (e:Ending) (w':World):Prop:=
  ∃(q:GT.Ptr α) (lu:GT.Ptr g4) (vl AK:ah) (lq:Nat->GT.Ptr oE),e= .returned (.tuple #[GT.val r q,GT.val r' lu])/\aW F w w'/\GT.own a2 vl w' r q/\GT.own a2 AK w' r' lu/\(∀b,vl b->w.heap.size<=b/\b<w'.heap.size)/\GT.own a2 F w' [n'] ((a5.1,lq):ak oE)
theorem ag.KR {α l t:Type} [GT α] [GT l] [GT t] {F:ah} {y:t} {a5:ak t} (S:ag P n w0 M u N β σ a w) (o:af w0 M u N F [y] a5) {i:Nat} {f:FuncId} {z:List Value} {d:Tmp} {r:α} {r':l} {n':t} (hc:Calls P f z.toArray w (nB F a5 w r r' n'))
    (K:∀A B C q D G H,ag P n w0 M B C β ⟨(d,.v (.tuple #[GT.val r q,GT.val r' D]))::σ.env,σ.aN⟩ A B->(∀b,N b->¬F b->C b/\B.heap[b]? =u.heap[b]?)->af w0 M B C G r q->af w0 M B C F [n'] ((a5.1,H):ak t)->U N G->b1 A B)
    (hcall:ep P n ops i σ=some (f,z,d):=by kernel_rfl) (hd:Nat.blt d n=true:=by kernel_rfl):wpOp P ops Q i b1 a w:=
  S.call hcall hc fun _ B ⟨q,D,G,A,H,he,C,I,J,aF,bc⟩=>⟨_,he,K _ B _ q D G H ((S.JC C o.sub o.I1).put (j3 hd) (fun _ _ e=>by cases e)) (S.IL C)
    ⟨I,fun b h=> .inr (aF b h),fun b h=> .inl (Nat.le_trans S.I7.size (aF b h).1)⟩ ⟨bc,fun b h=> .inl (o.sub b h),o.I1⟩ (U.fresh S B fun b h=>aF b h)⟩
theorem oo {α d f:Type} [GT α] [GT d] [GT f] {F l:ah} {r x:α} {r' q:d} {p:GT.Ptr α} {p':GT.Ptr d} {n' y:f} {a5:ak f} {t:Nat->GT.Ptr f} {v z:Value} (S:ag P n w0 F u N β σ a w) (h:r=x) (A:r'=q) (bc:n'=y) (B:v=GT.val x p) (C:z=GT.val q p')
    (o:af w0 F u N l x p) (D:GT.own a2 I w q p') (G:af w0 F u N F [y] ((a5.1,t):ak f)) (hd:U l F):nB F a5 w0 r r' n' (.returned (packed [v,z])) w:=by
  subst h A bc B C;have H:∀b,N b->w.heap[b]? =u.heap[b]? :=fun b hb=>(S.sep b hb).2.1;exact⟨p,p',l,I,t,rfl,S.I7,GT.bh o.own (fun b hb _=>H b (o.sub b hb)),D,fun b hb=>⟨(o.I1 b hb).resolve_right (fun h=>hd b hb h),(S.sep b (o.sub b hb)).1⟩,GT.bh G.own (fun b hb _=>H b (G.sub b hb))⟩
def ki {α:Type} [GT α] (R:GT.Ptr α->GT.Ptr α->Prop) (F:ah) (a5:ak α) (w:World) (v:Value) (pJ:α) (e:Ending) (w':World):Prop:=
  ∃(lq:Nat->GT.Ptr α) (e1:ah),e= .returned v/\aW F w w'/\GT.own a2 e1 w' [pJ] ((a5.1,lq):ak α)/\(∀b,e1 b->F b\/(w.heap.size<=b/\b<w'.heap.size))/\R (a5.2 0) (lq 0)
def wW (n:Nat) (ops:Array Oper) (i:Nat) (σ:aX):Option (FuncId×List Value×Tmp):=
  match ops.toList[i]? with
  |some o=>
    match ht ops σ o,o.op,o.dst with
    |some true,.call ⟨.value (.tmp t),args,_⟩,some d=>
      match σ.get (.tmp t) with
      |some (.v (.func (.func f) first nS))=>bif Nat.blt d n then(gv σ args.toList).map fun l=>(f,first.toList++l++nS.toList,d) else none
      |_=>none
    |_,_,_=>none
  |none=>none
theorem r6 {n:Nat} {ops:Array Oper} {i:Nat} {σ:aX} {f:FuncId} {r:List Value×Tmp} (aF:callee P f=true) (h:wW n ops i σ=some (f,r):=by kernel_rfl):ep P n ops i σ=some (f,r):=by
  unfold wW at h;unfold ep;split at h
  · rename_i t l;rw [l];split at h
    · rename_i y o x q h1 ab aq;simp only [h1,ab,aq];split at h
      · rename_i g first z aA
        simp only [aA];cases hb:Nat.blt q n
        · rw [hb] at h;cases h
        · rw [hb] at h;simp only [cond_true] at h;have e:g=f:=by
            cases d:gv σ o.toList
            · rw [d] at h;cases h
            · rw [d] at h;simp only [Option.map_some,Option.some.injEq,Prod.mk.injEq] at h;exact h.1
          subst e;simp only [aF,Bool.and_self,cond_true];exact h
      · cases h
    · cases h
  · cases h
def HU (P:Program) (ops:Array Oper) (i:Nat) (σ:aX):Option (FuncId×List Value):=
  match ops.toList[i]? with
  |some o=>
    match ht ops σ o,o.op,o.dst with
    |some true,.call ⟨.value (.func f),args,_⟩,none=>bif callee P f then(gv σ args.toList).map fun l=>(f,l) else none
    |_,_,_=>none
  |none=>none
theorem ag.KS {α:Type} [GT α] {R:GT.Ptr α->GT.Ptr α->Prop} {F:ah} {x:α} {a5:ak α} (S:ag P n w0 M u N β σ a w) (o:af w0 M u N F [x] a5) {i:Nat} {f:FuncId} {l:List Value} {d:Tmp} {v:Value} {q:α} (hc:Calls P f l.toArray w (ki R F a5 w v q))
    (K:∀r t y z A,ag P n w0 M t y β ⟨(d,.v v)::σ.env,σ.aN⟩ r t->(∀b,N b->¬F b->y b/\t.heap[b]? =u.heap[b]?)->af w0 M t y A [q] ((a5.1,z):ak α)->(∀B:ah,U B F->(∀b,B b->N b)->U B A)->R (a5.2 0) (z 0)->b1 r t)
    (hcall:ep P n ops i σ=some (f,l,d):=by kernel_rfl) (hd:Nat.blt d n=true:=by kernel_rfl):wpOp P ops Q i b1 a w:=
  S.call hcall hc fun _ t ⟨z,A,he,C,D,aF,G⟩=>⟨_,he,K _ t _ z A ((S.JC C o.sub o.I1).put (j3 hd) (fun _ _ e=>by cases e)) (S.IL C)
    ⟨D,fun b h=>(aF b h).elim (fun h=> .inl (o.sub b h)) .inr,fun b h=>(aF b h).elim (o.I1 b) (fun h=> .inl (Nat.le_trans S.I7.size h.1))⟩
    (fun B A C b h1 ab=>(aF b ab).elim (A b h1) (fun h=>by have:=(S.sep b (C b h1)).1;omega)) G⟩
theorem lv {α:Type} [GT α] {R:GT.Ptr α->GT.Ptr α->Prop} {F d:ah} {f x:α} {a5:ak α} {l:Nat->GT.Ptr α} {v:Value} (S:ag P n w0 F u N β σ a w) (h:f=x) (q:R (a5.2 0) (l 0)) (o:af w0 F u N d [x] ((a5.1,l):ak α)):ki R F a5 w0 v f (.returned v) w:=by
  subst h;exact⟨l,d,rfl,S.I7,GT.bh o.own (fun b hb _=>(S.sep b (o.sub b hb)).2.1),fun b hb=>(o.I1 b hb).elim (fun h=> .inr ⟨h,(S.sep b (o.sub b hb)).1⟩) .inl,q⟩
end
end Go.Proofs.YtkggcdhigchepaaGreat
namespace Go.Proofs.YtkggcdhigchepaaGreat
open Go
set_option linter.unusedVariables false
section
variable {P:Program} {ops:Array Oper} {R:Act->World->Prop} {C:World->Prop} {st:Nat}
theorem a_.KZ {i:Nat} {d:Oper} {v:Value} (hi:ops[i]? =some d) (l:Region.noSelect ops=true) (o:i≠st):
    ∀
      (f:Nat) (q:Array Bool) (a:Act) (w:World),
      (∀j r,ops[j]? =some r->j≠i->q.getD j true=false->(∀e∈r.after,Region.binds .any e=true->e.on≠i)->d.apart ops r=true)->
      i∈Region.ready .any ops q->YieldsIf P ops (fun _=>True) d v a->(q.getD st false=false->C w)->
      a_ P ops R st C f (q.setIfInBounds i true) (a.put d.dst v) w->a_ P ops R st C (f+1) q a w:=by
  intro f;have t:∀c a w,fs R (.panic c) (a.put d.dst v) w->fs R (.panic c) a w:=fun _ _ _ h=>(by cases h.1);have l_:∀(q:Array Bool),i∈Region.ready .any ops q->q.getD i false=false:=fun q aU=>by
    have u:=(mem_ready.1 aU).1;rcases Nat.lt_or_ge i q.size with y|y
    · simp [y] at u ⊢;exact u
    · simp [Array.getElem?_eq_none y]
  induction f with
  |zero=>
    intro q a w _ aU A B D;refine⟨fun h=>(by rw [h] at aU;cases aU),fun j F=>?_⟩;by_cases G:j=i
    · subst G;exact A.wpOp hi trivial ⟨fun h=>B (by rwa [getD_set_ne false o] at h),D⟩
    · have:=ready_mono F G;rw [D.1] at this;cases this
  |succ f H=>
    intro q a w I aU A B D;refine⟨fun h=>(by rw [h] at aU;cases aU),fun j F=>?_⟩;by_cases G:j=i
    · subst G;exact A.wpOp hi trivial ⟨fun h=>B (by rwa [getD_set_ne false o] at h),D⟩
    have h1:=D.2 j (ready_mono F G);obtain⟨B,r,J,iq⟩:=mem_ready.1 F;have D:∀e∈r.after,Region.binds .any e=true->e.on≠i:=fun e he hb F=>by
      have ab:=iq e he hb;rw [F,l_ q aU] at ab;cases ab
    have ab:=wpOp_putIf J (I j r J G B D) (fun F b=>Region.noSelect_spec l i d F b hi) (fun F b=>Region.noSelect_spec l j r F b J) t A h1;have D:∀k K,ops[k]? =some K->k≠i->(q.setIfInBounds j true).getD k true=false->(∀e∈K.after,Region.binds .any e=true->e.on≠i)->d.apart ops K=true:=fun k K hk A hu F=>by
      refine I k K hk A ?_ F;by_cases J:j=k
      · subst J;exact B
      · rwa [getD_set_ne true J] at hu
    refine wpOp_mono (fun A B aq=>?_) ab;obtain⟨bg,F,I⟩:=aq;have J:(q.setIfInBounds j true).getD st false=false->C B:=fun h=>F (by
      rw [Array.setIfInBounds_comm _ _ (Ne.symm G),getD_set_ne false o];exact h)
    rw [Array.setIfInBounds_comm _ _ (Ne.symm G)] at I;exact⟨J,H (q.setIfInBounds j true) A B D (ready_mono aU (Ne.symm G)) bg J I⟩
end
section
variable {P:Program} {n:Nat} {w0:World} {M:ah} {u:World} {N:ah} {β:Nat->Nat} {σ σ':aX} {a:Act} {w:World} {ops:Array Oper} {R:Act->World->Prop} {C:World->Prop} {st:Nat}
def nn (β:Nat->Nat):Env->Env
  |[]=>[]
  |(t,s)::r=>(t,.v (s.val β))::nn β r
def aX.pl (σ:aX) (β:Nat->Nat):aX:=⟨nn β σ.env,[]⟩
theorem uh {t:Nat}:∀(e:Env),look (nn β e) t=(look e t).map fun s=> .v (s.val β)
  |
    []=>rfl
  |(s,x)::r=>by
    simp only [nn,iw];split
    · rfl
    · exact uh r
theorem ag.KQ (S:ag P n w0 M u N β σ a w) (d:World):ag P n d (fun _=>True) d I β (σ.pl β) a d:=by
  refine⟨S.Jt,S.ao,fun A s B=>?_,fun A k D B=>?_,fun k D hk=>by simp [aX.pl] at hk,fun _ _ D=>by simp [aX.pl] at D,fun _ hk=>by simp [aX.pl] at hk,fun b hb=>False.elim hb,aW.refl _ _,fun b _ D=>absurd trivial D⟩
  · rw [show(σ.pl β).env=nn β σ.env from rfl,uh] at B;cases hs:look σ.env A with
    |
      none=>rw [hs] at B;cases B
    |some D=>
      rw [hs] at B;simp only [Option.map_some,Option.some.injEq] at B;subst B;exact S.env A D hs
  · rw [show(σ.pl β).env=nn β σ.env from rfl,uh] at B;cases hs:look σ.env A with
    |none=>rw [hs] at B;cases B
    |some D=>rw [hs] at B;simp at B
def rn (P:Program) (ops:Array Oper) (β:Nat->Nat) (σ:aX) (i:Nat):Bool:=
  match ops[i]? with
  |some o=>
    match ht ops σ o with
    |some false=>true
    |some true=>match ln P (σ.pl β) o,ln P σ o with
      |some (.val _),some (.val _)=>true
      |_,_=>false
    |none=>false
  |none=>false
def oi (ops:Array Oper) (st:Nat) (fQ:Array Bool) (i:Nat):Bool:=
  Region.noSelect ops&&Region.free .any ops fQ i&&(Region.ready .any ops fQ).contains i&& !Nat.beq i st
theorem ag.K1 (S:ag P n w0 M u N β σ a w) {i f:Nat} {o:Array Bool} (A:oi ops st o i=true) (aY:rn P ops β σ i=true) (I:o.getD st false=false->C w) (d:dD P n ops ((ops.toList.drop i).take 1) σ []=some (σ',[]))
    (K:∀B,ag P n w0 M u N β σ' B w->a_ P ops R st C f (o.setIfInBounds i true) B w):a_ P ops R st C (f+1) o a w:=by
  unfold rn at aY;split at aY
  · rename_i q z;have J:i<ops.size:=(Array.getElem?_eq_some_iff.1 z).1;have L:(ops.toList.drop i).take 1=[q]:=by
      rw [List.drop_eq_getElem_cons (show i<ops.toList.length by simpa using J)];have:=(Array.getElem?_eq_some_iff.1 z).2;simp [←this]
    rw [L] at d;simp only [oi,Bool.and_eq_true,Bool.not_eq_true'] at A;obtain⟨⟨⟨O,Q⟩,T⟩,D⟩:=A;have U:i≠st:=fun e=>by rw [e,Nat.beq_refl] at D;cases D
    have F:∀v,YieldsIf P ops (fun _=>True) q v a->ag P n w0 M u N β σ' (a.put q.dst v) w->a_ P ops R st C (f+1) o a w:=fun v W X=>
      a_.KZ z O U f o a w (Region.free_spec z Q) (by simpa using T) W I (K _ X)
    simp only [dD] at d;split at d
    · cases d
    · rename_i aA;cases l:σ.put n q.dst (.v undef) with
      |
        none=>rw [l] at d;cases d
      |some Y=>
        rw [l] at d;simp only [Option.bind_some,Option.some.injEq,Prod.mk.injEq,and_true] at d;subst d;exact F undef (.inr ⟨gM S aA,rfl⟩) (S.put l (fun _ _ e=>by cases e))
    · rename_i aA;simp only [aA] at aY;have ad:=gM S aA;split at aY
      · rename_i G af ae r;have H:∀t,(execOp a.eval q).run P t= .ok (.value (G.val β)) t:=fun t=>(gD (S.KQ t) ae).1;split at d
        · cases d
        · rename_i x hx;cases l:σ.put n q.dst x with
          |
            none=>rw [l] at d;cases d
          |some Y=>
            rw [l] at d;simp only [Option.bind_some,Option.some.injEq,Prod.mk.injEq,and_true] at d;subst d;have h1:=(gD S hx).1;rw [H w] at h1;have e:G.val β=x.val β:=by
              injection h1 with h1 _
              injection h1
            exact F (x.val β) (.inl ⟨ad,fun t _=>e▸H t⟩) (S.put l (gD S hx).2)
        · rename_i y;rw [y] at r;cases r
        · rename_i y;rw [y] at r;cases r
        · rename_i y;rw [y] at r;cases r
      · cases aY
  · cases aY
def aX.JP (σ:aX) (br:List Nat) (new:Env):aX:=⟨σ.keep 1000 (iV σ.env br new)++new,σ.aN⟩
theorem ag.I9 {d:List (List Value)} (S:ag P n w0 M u N β σ a w) {f:Nat} {l:Array Bool} (i:Nat) (o:List Nat) (br:List Nat) (q:Env) {claims:List (Ask×Value)} (r:cm P u N claims)
    (K:∀t,ag P n w0 M u N β (σ.JP br q) t w->a_ P ops R st (cn w0 M u N β d) f (l.setIfInBounds i true) t w)
    (A:σ.aN=d:=by kernel_rfl) (B:kV ops st l i o=true:=by kernel_rfl) (D:km P ops σ i=true:=by kernel_rfl)
    (F:gA P n ops i 1 σ (claims.map (·.2)) (iV σ.env br q++fA q) 1000=some (σ.JP br q,claims):=by kernel_rfl):a_ P ops R st (cn w0 M u N β d) (f+1) l a w:=by
  subst A;exact S.hoist B D r F K
theorem ag.KI {d:List (List Value)} (S:ag P n w0 M u N β σ a w) (f:σ.aN=d:=by kernel_rfl):cn w0 M u N β d w:=f▸S.rc
def jx (l:Array Bool):List Nat->Array Bool
  |[]=>l
  |i::r=>jx (l.setIfInBounds i true) r
theorem mD:∀(r:List Oper) (σ:aX) (d:List Value) (f:aX×List (Ask×Value)),dD P n ops r σ d=some f->dD P n ops r σ (f.2.map (·.2))=some f
  |
    [],σ,d,f,h=>by
    simp only [dD,Option.some.injEq] at h ⊢;subst h;rfl
  |o::r,σ,d,f,h=>by
    unfold dD at h ⊢;split at h
    · cases h
    · rw [Option.bind_eq_some_iff] at h ⊢;obtain⟨σ',h1,ab⟩:=h;exact⟨σ',h1,mD r σ' d f ab⟩
    · split at h
      · cases h
      · rw [Option.bind_eq_some_iff] at h ⊢;obtain⟨σ',h1,ab⟩:=h;exact⟨σ',h1,mD r σ' d f ab⟩
      · split at h
        · cases h
        · rw [Option.bind_eq_some_iff] at h;obtain⟨σ',h1,ab⟩:=h;rw [Option.map_eq_some_iff] at ab;obtain⟨x,aq,bg⟩:=ab;subst bg;simp only [List.map_cons];rw [h1];simp only [Option.bind_some,mD r σ' _ x aq,Option.map_some]
      · rw [Option.bind_eq_some_iff] at h ⊢;obtain⟨σ',h1,ab⟩:=h;exact⟨σ',h1,mD r σ' d f ab⟩
      · split at h
        · exact mD r _ d f h
        · cases h
def pn (ops:Array Oper) (i:Nat) (l:List Nat):List Nat:=
  match ops[i]? with
  |some o=>match o.dst with
    |some d=>d::l
    |none=>l
  |none=>l
def n1 (P:Program) (n:Nat) (ops:Array Oper) (st:Nat):List Nat->Array Bool->aX->List Value->Option (aX×List (Ask×Value)×List (List (List Value)))
  |
    [],_,σ,_=>some (σ,[],[])
  |i::is,l,σ,eT=>
    bif kV ops st l i [i]&&km P ops σ i then
      match gA P n ops i 1 σ eT (pn ops i (fA σ.env)) 1000 with
      |none=>none
      |some z=>(n1 P n ops st is (l.setIfInBounds i true) z.1 (eT.drop z.2.length)).map fun x=>(x.1,z.2++x.2.1,σ.aN::x.2.2)
    else none
theorem cm.app {P:Program} {u:World} {N:ah}:∀{l r:List (Ask×Value)},cm P u N (l++r)->cm P u N l/\cm P u N r
  |[],_,h=>⟨trivial,h⟩
  |_::_,_,h=>⟨⟨h.1,(cm.app h.2).1⟩,(cm.app h.2).2⟩
theorem D8 {i k:Nat} {d:List Value} {keep:List Nat} {m:Nat} {f:aX×List (Ask×Value)} (h:gA P n ops i k σ d keep m=some f):gA P n ops i k σ (f.2.map (·.2)) keep m=some f:=by
  unfold gA at h ⊢;cases hb:Nat.ble (i+k) ops.size
  · rw [hb] at h;cases h
  · rw [hb] at h;simp only [cond_true,Option.map_eq_some_iff] at h ⊢;obtain⟨x,h1,ab⟩:=h;subst ab;exact⟨x,mD _ _ _ x h1,rfl⟩
theorem ag.KD {r:List (List Value)}:∀(d:List Nat) (l:Array Bool) (σ:aX) (t:List Value) (o:aX×List (Ask×Value)×List (List (List Value))) (a:Act) (f:Nat),ag P n w0 M u N β σ a w->n1 P n ops st d l σ t=some o->cm P u N o.2.1->o.2.2=List.replicate d.length r->
    (∀q,ag P n w0 M u N β o.1 q w->a_ P ops R st (cn w0 M u N β r) f (jx l d) q w)->a_ P ops R st (cn w0 M u N β r) (f+d.length) l a w
  |
    [],l,σ,t,o,a,f,S,h,_,_,K=>by
    simp only [n1,Option.some.injEq] at h;subst h;exact K a S
  |i::d,l,σ,t,o,a,f,S,h,y,hb,K=>by
    unfold n1 at h;cases hc:(kV ops st l i [i]&&km P ops σ i)
    · rw [hc] at h;cases h
    · rw [hc] at h;simp only [cond_true] at h;rw [Bool.and_eq_true] at hc;split at h
      · cases h
      · rename_i z A;rw [Option.map_eq_some_iff] at h;obtain⟨x,h1,ab⟩:=h;subst ab;simp only [List.length_cons,List.replicate_succ,List.cons.injEq] at hb;obtain⟨B,D⟩:=hb;subst B;obtain⟨F,G⟩:=cm.app y;exact ag.hoist (keep:=pn ops i (fA σ.env)) (m:=1000) S hc.1 hc.2 F (D8 A) fun q H=>ag.KD d _ z.1 _ x q f H h1 G D K
theorem ag.hm {d:List (List Value)} (S:ag P n w0 M u N β σ a w) {l:Nat} {o:Array Bool} (f:Nat) (q:List Nat) (br:List Nat) (r:Env) {claims:List (Ask×Value)} (t:cm P u N claims)
    (K:∀y,ag P n w0 M u N β (σ.JP br r) y w->a_ P ops R st (cn w0 M u N β d) f (jx o q) y w)
    (z:(n1 P n ops st q o σ (claims.map (·.2))).map (fun x=>((⟨x.1.keep 1000 (iV σ.env br r++fA r),x.1.aN.take 1000⟩:aX),x.2))=some (σ.JP br r,claims,List.replicate q.length d):=by kernel_rfl) (aF:l=f+q.length:=by kernel_rfl):a_ P ops R st (cn w0 M u N β d) l o a w:=by
  subst aF;rw [Option.map_eq_some_iff] at z;obtain⟨x,h1,ab⟩:=z;simp only [Prod.mk.injEq] at ab;obtain⟨A,B⟩:=ab;exact ag.KD q o σ _ x a f S h1 (by rw [B];exact t) (by rw [B]) fun y D=>K y (A▸D.J1 1000 (iV σ.env br r++fA r))
def gq (ov:List (Nat×Bool)) (i:Nat) (d:Option Nat) (σ:aX):aX×List (Bool×Bool):=
  match n6 ov i,d with
  |some b,some d=>match look σ.env d with
    |some (.v (.bool c))=>(⟨(d,.v (.bool b))::σ.env,σ.aN⟩,[(c,b)])
    |_=>(σ,[])
  |_,_=>(σ,[])
theorem ag.gq (S:ag P n w0 M u N β σ a w) {ov:List (Nat×Bool)} {i:Nat} {d:Option Nat} (h:fc (gq ov i d σ).2):ag P n w0 M u N β (Go.Proofs.YtkggcdhigchepaaGreat.gq ov i d σ).1 a w:=by
  unfold Go.Proofs.YtkggcdhigchepaaGreat.gq at h ⊢;split
  · rename_i b d hb;simp only [hb] at h;split
    · rename_i c hc;simp only [hc] at h;have e:c=b:=h.1;subst e;refine⟨S.Jt,S.ao,fun l s f=>?_,fun l k o f=>?_,S.box,S.inj,S.new,S.sep,S.I7,S.fZ⟩
      · rw [iw] at f;split at f
        · rename_i e;subst e;simp only [Option.some.injEq] at f;subst f;exact S.env _ _ hc
        · exact S.env l s f
      · rw [iw] at f;split at f
        · simp only [Option.some.injEq] at f;cases f
        · exact S.ok l k o f
    · exact S
  · exact S
def ia (ops:Array Oper) (i:Nat):Option Nat:=(ops[i]?).bind (·.dst)
def iS (P:Program) (n:Nat) (ops:Array Oper) (st:Nat) (β:Nat->Nat) (ov:List (Nat×Bool)):List Nat->Array Bool->aX->Option (aX×List (Bool×Bool))
  |
    [],_,σ=>some (σ,[])
  |i::r,l,σ=>bif oi ops st l i&&rn P ops β σ i then
      match dD P n ops ((ops.toList.drop i).take 1) σ [] with
      |some (AJ,[])=>(iS P n ops st β ov r (l.setIfInBounds i true) (gq ov i (ia ops i) AJ).1).map fun z=>(z.1,(gq ov i (ia ops i) AJ).2++z.2)
      |_=>none
    else none
theorem ag.Kd {ov:List (Nat×Bool)}:∀(hs:List Nat) (d:Array Bool) (σ:aX) (l:aX×List (Bool×Bool)) (a:Act) (f:Nat),ag P n w0 M u N β σ a w->(d.getD st false=false->C w)->iS P n ops st β ov hs d σ=some l->fc l.2->
    (∀t,ag P n w0 M u N β l.1 t w->a_ P ops R st C f (jx d hs) t w)->a_ P ops R st C (f+hs.length) d a w
  |
    [],d,σ,l,a,f,S,o,h,hb,K=>by
    simp only [iS,Option.some.injEq] at h;subst h;exact K a S
  |i::r,d,σ,l,a,f,S,o,h,y,K=>by
    simp only [iS] at h;cases hb:(oi ops st d i&&rn P ops β σ i) with
    |false=>rw [hb] at h;cases h
    |true=>
      rw [hb] at h;simp only [cond_true] at h;simp only [Bool.and_eq_true] at hb;split at h
      · rename_i z he;refine S.K1 hb.1 hb.2 o he fun A B=>?_;have D:i≠st:=fun e=>by
          have bg:=hb.1;simp only [oi,Bool.and_eq_true,Bool.not_eq_true'] at bg;rw [e,Nat.beq_refl] at bg;cases bg.2
        cases q:iS P n ops st β ov r (d.setIfInBounds i true) (Go.Proofs.YtkggcdhigchepaaGreat.gq ov i (ia ops i) z).1 with
        |none=>rw [q] at h;cases h
        |some F=>
          rw [q] at h;simp only [Option.map_some,Option.some.injEq] at h;subst h;exact ag.Kd r _ _ F A f (B.gq y.left) (fun G=>o (by rwa [getD_set_ne false D] at G)) q y.right K
      · cases h
theorem ag.K7 {d:Nat->Array Bool->Act->World->Prop} (S:ag P n w0 M u N β σ a w) (o:d=a_ P ops R st C) (hs:List Nat) (ov:List (Nat×Bool)) {q:List (Bool×Bool)} {f r:Nat} {l l2:Array Bool} (t:l.getD st false=false->C w) (y:fc q)
    (K:∀z,ag P n w0 M u N β σ' z w->d f l2 z w)
    (A:((iS P n ops st β ov hs l σ).bind fun s=>(jz s.1 (fA σ'.env) σ'.aN.length).map fun x=>(x,s.2))=some (σ',q):=by kernel_rfl) (hl:jx l hs=l2:=by kernel_rfl) (aF:r=f+hs.length:=by kernel_rfl):a_ P ops R st C r l a w:=by
  subst aF o hl;cases he:iS P n ops st β ov hs l σ with
  |none=>rw [he] at A;cases A
  |some s=>
    rw [he] at A;simp only [Option.bind_some] at A;cases aY:jz s.1 (fA σ'.env) σ'.aN.length with
    |none=>rw [aY] at A;cases A
    |some x=>
      rw [aY] at A;simp only [Option.map_some,Option.some.injEq,Prod.mk.injEq] at A;obtain⟨B,D⟩:=A;subst B;exact ag.Kd hs l σ s a f S t he (D▸y) fun z F=>K z (F.prune aY)
theorem ag.Jz {d:Nat->Array Bool->Act->World->Prop} (S:ag P n w0 M u N β σ a w) (o:d=a_ P ops R st C) (hs:List Nat) {f q:Nat} {l l2:Array Bool} (r:l.getD st false=false->C w)
    (K:∀t,ag P n w0 M u N β σ' t w->d f l2 t w)
    (A:((iS P n ops st β [] hs l σ).bind fun s=>(jz s.1 (fA σ'.env) σ'.aN.length).map fun x=>(x,s.2))=some (σ',[]):=by kernel_rfl) (hl:jx l hs=l2:=by kernel_rfl) (aF:q=f+hs.length:=by kernel_rfl):a_ P ops R st C q l a w:=S.K7 o hs [] r .nil K A hl aF
abbrev d_ (N0:ah) (u0:World) (N:ah) (u:World):Prop:=∀b,N0 b->N b/\u.heap[b]? =u0.heap[b]?
abbrev en (m:Nat) (β0 β:Nat->Nat):Prop:=∀k,k<m->β k=β0 k
theorem a_.Kr {u0:World} {N0:ah} {β0:Nat->Nat} {d:List (List Value)} {f:Nat} {l:Array Bool} (S:ag P n w0 M u N β σ a w) (o:d_ N0 u0 N u) (q:en d.length β0 β) (r:σ.aN.take d.length=d)
    (h:cn w0 M u0 N0 β0 d w->a_ P ops R st (cn w0 M u0 N0 β0 d) f l a w):(l.getD st false=false->cn w0 M u0 N0 β0 d w)/\a_ P ops R st (cn w0 M u0 N0 β0 d) f l a w:=by
  have t:cn w0 M u0 N0 β0 d w:=⟨fun k A hk=>by
      have B:=(List.getElem?_eq_some_iff.1 hk).1;rw [←q k B];refine S.box k A ?_;rw [←r,List.getElem?_take_of_lt B] at hk;exact hk,fun b hb=>⟨(S.sep b (o b hb).1).1,((S.sep b (o b hb).1).2.1).trans (o b hb).2⟩,S.I7⟩
  exact⟨fun _=>t,h t⟩
def kF (P:Program) (n:Nat) (ops:Array Oper) (i:Nat) (σ:aX) (cU:List Value):Option (aX×List (Ask×Value)):=
  match (ops.toList.drop i).take 1 with
  |[o]=>dD P n ops [o] σ cU
  |_=>none
theorem sS {i:Nat} {d:List Value} {r:aX×List (Ask×Value)} (h:kF P n ops i σ d=some r):∃o,ops[i]? =some o/\dD P n ops [o] σ d=some r:=by
  unfold kF at h;split at h
  · rename_i o f;refine⟨o,?_,h⟩;have h1:((ops.toList.drop i).take 1)[0]? =some o:=by rw [f];rfl
    rw [List.getElem?_take_of_lt V,List.getElem?_drop] at h1
    simpa using h1
  · cases h
def mC (P:Program) (n:Nat) (ops:Array Oper) (st:Nat) (β:Nat->Nat) (i:Nat) (hs:List Nat) (ov:List (Nat×Bool)) (l:Array Bool) (σ:aX) (cU:List Value) (keep:List Nat) (m:Nat):Option (aX×List (Ask×Value)×List (Bool×Bool)):=
  match kF P n ops i σ cU with
  |some r=>(iS P n ops st β ov hs (l.setIfInBounds i true) (gq ov i (ia ops i) r.1).1).bind fun s=>(jz s.1 keep m).map fun x=>(x,r.2,(gq ov i (ia ops i) r.1).2++s.2)
  |none=>none
theorem pw {i:Nat} {hs keep:List Nat} {ov:List (Nat×Bool)} {l:Array Bool} {o:List Value} {m:Nat} {claims:List (Ask×Value)} {q:List (Bool×Bool)} (h:mC P n ops st β i hs ov l σ o keep m=some (σ',claims,q)):
    ∃f d,kF P n ops i σ o=some (f,claims)/\iS P n ops st β ov hs (l.setIfInBounds i true) (gq ov i (ia ops i) f).1=some d/\jz d.1 keep m=some σ'/\q=(gq ov i (ia ops i) f).2++d.2:=by
  unfold mC at h;split at h
  · rename_i r aU;cases ab:iS P n ops st β ov hs (l.setIfInBounds i true) (gq ov i (ia ops i) r.1).1 with
    |
      none=>rw [ab] at h;cases h
    |some d=>
      rw [ab] at h;simp only [Option.bind_some] at h;cases aq:jz d.1 keep m with
      |none=>rw [aq] at h;cases h
      |some t=>
        rw [aq] at h;simp only [Option.map_some,Option.some.injEq,Prod.mk.injEq] at h;exact⟨r.1,d,by rw [aU,←h.2.1],ab,by rw [aq,h.1],h.2.2.symm⟩
  · cases h
theorem a_.K5 {β':Nat->Nat} {d:List (List Value)} {f:Nat} {l:Array Bool} (o:ag P n w0 M u N β' σ' a w) (q:∀k,k<σ.aN.length->β' k=β k)
    (h:a_ P ops R st (cn w0 M u N β' σ'.aN) f l a w) (hb:σ.aN=d:=by kernel_rfl) (r:σ'.aN.take d.length=d:=by kernel_rfl):(l.getD st false=false->cn w0 M u N β d w)/\a_ P ops R st (cn w0 M u N β d) f l a w:=
  a_.stay o (fun k hk=>q k (by rw [hb];exact hk)) (fun k A hk=>by
    have A:=(List.getElem?_eq_some_iff.1 hk).1;rw [←r,List.getElem?_take_of_lt A] at hk;exact hk) h
theorem ag.K9 {d:Nat->Array Bool->Act->World->Prop} {u0:World} {N0:ah} {β0:Nat->Nat} {o:List (List Value)} (S:ag P n w0 M u N β σ a w) (q:d=a_ P ops R st (cn w0 M u0 N0 β0 o)) (r:d_ N0 u0 N u) (t:en o.length β0 β)
    {i:Nat} (hs:List Nat) (ov:List (Nat×Bool)) {y:List (Bool×Bool)} {claims:List (Ask×Value)} (z:cm P u N claims) (A:fc y) {f B:Nat} {l l2:Array Bool}
    (K:∀D F β',ag P n w0 M u N β' σ' D F->en o.length β0 β'->d f l2 D F)
    (G:∀β',mC P n ops st β' i hs ov l σ (claims.map (·.2)) (fA σ'.env) σ'.aN.length=some (σ',claims,y):=by intro β';kernel_rfl)
    (H:((kF P n ops i σ (claims.map (·.2))).map fun I=>I.1.aN.take o.length)=some o:=by kernel_rfl) (I:Nat.ble o.length σ.aN.length=true:=by kernel_rfl) (hl:jx (l.setIfInBounds i true) hs=l2:=by kernel_rfl) (aF:B=f+hs.length:=by kernel_rfl):
    wpOp P ops (fs R) i (fun D F=>((l.setIfInBounds i true).getD st false=false->cn w0 M u0 N0 β0 o F)/\a_ P ops R st (cn w0 M u0 N0 β0 o) B (l.setIfInBounds i true) D F) a w:=by
  subst aF q hl;obtain⟨B,F,h1,ab,aq,bg⟩:=pw (G β);obtain⟨B,F,he⟩:=sS h1;refine px F he z S fun B aD J L hb=>?_;obtain⟨F,O,Q,T,U,W⟩:=pw (G J);rw [h1] at Q;simp only [Option.some.injEq,Prod.mk.injEq,and_true] at Q;subst Q;have F:o.length<=σ.aN.length:=Nat.le_of_ble_eq_true I;have F:en o.length β0 J:=fun k hk=>(hb k V).trans (t k hk);rw [h1] at H;simp only [Option.map_some,Option.some.injEq] at H;rw [W] at A;exact a_.Kr L r F H fun G=>ag.Kd hs _ _ O B f (L.gq A.left) (fun _=>G) T A.right fun D B=>K D aD J (B.prune U) F
theorem ag.K8 {d:Nat->Array Bool->Act->World->Prop} (S:ag P n w0 M u N β σ a w) (o:d=a_ P ops R st C)
    {i:Nat} (hs:List Nat) (ov:List (Nat×Bool)) {q:List (Bool×Bool)} {claims:List (Ask×Value)} (r:cm P u N claims) (t:fc q) {f y:Nat} {l l2:Array Bool}
    (K:∀z A β',ag P n w0 M u N β' σ' z A->d f l2 z A)
    (B:∀β',mC P n ops st β' i hs ov l σ (claims.map (·.2)) (fA σ'.env) σ'.aN.length=some (σ',claims,q):=by intro β';kernel_rfl)
    (D:(l.setIfInBounds i true).getD st false=true:=by kernel_rfl) (hl:jx (l.setIfInBounds i true) hs=l2:=by kernel_rfl) (aF:y=f+hs.length:=by kernel_rfl):
    wpOp P ops (fs R) i (fun z A=>((l.setIfInBounds i true).getD st false=false->C A)/\a_ P ops R st C y (l.setIfInBounds i true) z A) a w:=by
  subst aF o hl;obtain⟨A,F,h1,ab,aq,bg⟩:=pw (B β);obtain⟨A,F,he⟩:=sS h1;refine px F he r S fun A aD G H hb=>?_;obtain⟨F,I,J,L,O,Q⟩:=pw (B G);rw [h1] at J;simp only [Option.some.injEq,Prod.mk.injEq,and_true] at J;subst J;rw [Q] at t;have F:(l.setIfInBounds i true).getD st false=false->C aD:=fun h=>by rw [D] at h;cases h
  exact⟨F,ag.Kd hs _ _ I A f (H.gq t.left) F L t.right fun z B=>K z aD G (B.prune O)⟩
theorem ag.JH {d:Nat->Array Bool->Act->World->Prop} {u0:World} {N0:ah} {β0:Nat->Nat} {o:List (List Value)} (S:ag P n w0 M u N β σ a w) (q:d=a_ P ops R st (cn w0 M u0 N0 β0 o)) (r:d_ N0 u0 N u) (t:en o.length β0 β)
    {i:Nat} (hs:List Nat) {claims:List (Ask×Value)} (y:cm P u N claims) {f z:Nat} {l l2:Array Bool}
    (K:∀A B β',ag P n w0 M u N β' σ' A B->en o.length β0 β'->d f l2 A B)
    (D:∀β',mC P n ops st β' i hs [] l σ (claims.map (·.2)) (fA σ'.env) σ'.aN.length=some (σ',claims,[]):=by intro β';kernel_rfl)
    (F:((kF P n ops i σ (claims.map (·.2))).map fun G=>G.1.aN.take o.length)=some o:=by kernel_rfl) (G:Nat.ble o.length σ.aN.length=true:=by kernel_rfl) (hl:jx (l.setIfInBounds i true) hs=l2:=by kernel_rfl) (aF:z=f+hs.length:=by kernel_rfl):
    wpOp P ops (fs R) i (fun A B=>((l.setIfInBounds i true).getD st false=false->cn w0 M u0 N0 β0 o B)/\a_ P ops R st (cn w0 M u0 N0 β0 o) z (l.setIfInBounds i true) A B) a w:=S.K9 q r t hs [] y .nil K D F G hl aF
theorem ag.wl {d:Nat->Array Bool->Act->World->Prop} (S:ag P n w0 M u N β σ a w) (o:d=a_ P ops R st C)
    {i:Nat} (hs:List Nat) {claims:List (Ask×Value)} (q:cm P u N claims) {f r:Nat} {l l2:Array Bool}
    (K:∀t y β',ag P n w0 M u N β' σ' t y->d f l2 t y)
    (A:∀β',mC P n ops st β' i hs [] l σ (claims.map (·.2)) (fA σ'.env) σ'.aN.length=some (σ',claims,[]):=by intro β';kernel_rfl)
    (B:(l.setIfInBounds i true).getD st false=true:=by kernel_rfl) (hl:jx (l.setIfInBounds i true) hs=l2:=by kernel_rfl) (aF:r=f+hs.length:=by kernel_rfl):
    wpOp P ops (fs R) i (fun t y=>((l.setIfInBounds i true).getD st false=false->C y)/\a_ P ops R st C r (l.setIfInBounds i true) t y) a w:=S.K8 o hs [] q .nil K A B hl aF
section
variable {W:Nat->Array Bool->Act->World->Prop} {f:Nat} {l:Array Bool}
abbrev r5 (P:Program) (ops:Array Oper) (R:Act->World->Prop) (st:Nat) (C:World->Prop) (f:Nat) (l:Array Bool) (a:Act) (w:World) (i:Nat):Prop:=
  wpOp P ops (fs R) i (fun kk w'=>((l.setIfInBounds i true).getD st false=false->C w')/\a_ P ops R st C f (l.setIfInBounds i true) kk w') a w
theorem gr (d:W=a_ P ops R st C) (i:Nat) (h:r5 P ops R st C f l a w i) (aU:Region.ready .any ops l=[i]:=by kernel_rfl):W (f+1) l a w:=by
  subst d;exact a_.one aU h
theorem uS (d:W=a_ P ops R st C) (i j:Nat) (h:r5 P ops R st C f l a w i) (ab:r5 P ops R st C f l a w j) (aU:Region.ready .any ops l=[i,j]:=by kernel_rfl):W (f+1) l a w:=by
  subst d;exact a_.many aU rfl (List.forall_mem_cons.2 ⟨h,List.forall_mem_cons.2 ⟨ab,List.forall_mem_nil _⟩⟩)
theorem q0 (d:W=a_ P ops R st C) (h:R a w) (aU:Region.ready .any ops l=[]:=by kernel_rfl):W f l a w:=by
  subst d;exact a_.done aU h f
end
theorem a_.Jh {f:Nat} {l:Array Bool} (h:(l.getD st false=false->C w)->a_ P ops R st C f l a w) (d:l.getD st false=true:=by kernel_rfl):(l.getD st false=false->C w)/\a_ P ops R st C f l a w:=
  ⟨fun o=>(by rw [d] at o;cases o),h fun o=>(by rw [d] at o;cases o)⟩
theorem a_.Kp {u0:World} {N0:ah} {β0:Nat->Nat} {d:List (List Value)} {f:Nat} {l:Array Bool} (S:ag P n w0 M u N β σ a w) (o:d_ N0 u0 N u) (q:en d.length β0 β)
    (h:(l.getD st false=false->cn w0 M u0 N0 β0 d w)->a_ P ops R st (cn w0 M u0 N0 β0 d) f l a w) (r:σ.aN.take d.length=d:=by kernel_rfl):(l.getD st false=false->cn w0 M u0 N0 β0 d w)/\a_ P ops R st (cn w0 M u0 N0 β0 d) f l a w:=a_.Kr S o q r fun A=>h fun _=>A
end
end Go.Proofs.YtkggcdhigchepaaGreat
namespace Go.Proofs.YtkggcdhigchepaaGreat
open Go
set_option linter.unusedVariables false
section
variable {P:Program} {n:Nat} {w0:World} {M:ah} {u:World} {N:ah} {β:Nat->Nat} {σ:aX} {a:Act} {w:World} {ops:Array Oper} {R:Act->World->Prop} {C:World->Prop} {st:Nat}
theorem ag.Kq {d:List (List Value)} (S:ag P n w0 M u N β σ a w) {f:Nat} {l:Array Bool} (i:Nat) (br:List Nat) (o:Env) (m:Nat) (q:List (Nat×List Value)) {claims:List (Ask×Value)} (r:cm P u N claims)
    (K:∀t y β',ag P n w0 M u N β' (σ.dl br o m q) t y->a_ P ops R st (cn w0 M u N β' (σ.dl br o m q).aN) f (l.setIfInBounds i true) t y)
    (z:gA P n ops i 1 σ (claims.map (·.2)) (iV σ.env br o++fA o) m=some (σ.dl br o m q,claims):=by kernel_rfl)
    (hb:σ.aN=d:=by kernel_rfl) (A:(σ.dl br o m q).aN.take d.length=d:=by kernel_rfl) (aU:Region.ready .any ops l=[i]:=by kernel_rfl):a_ P ops R st (cn w0 M u N β d) (f+1) l a w:=
  a_.one aU (S.KL r z fun t y β' B D=>a_.K5 B D (K t y β' B) hb A)
theorem ag.Jh (S:ag P n w0 M u N β σ a w) {f:Nat} {l:Array Bool} (i:Nat) (br:List Nat) (d:Env) (m:Nat) (o:List (Nat×List Value)) {claims:List (Ask×Value)} (q:cm P u N claims)
    (K:∀r t β',ag P n w0 M u N β' (σ.dl br d m o) r t->a_ P ops R st C f (l.setIfInBounds i true) r t)
    (y:gA P n ops i 1 σ (claims.map (·.2)) (iV σ.env br d++fA d) m=some (σ.dl br d m o,claims):=by kernel_rfl)
    (A:(l.setIfInBounds i true).getD st false=true:=by kernel_rfl) (aU:Region.ready .any ops l=[i]:=by kernel_rfl):a_ P ops R st C (f+1) l a w:=
  a_.one aU (S.KL q y fun r t β' B D=>a_.last A (K r t β' B))
end
def hC (i j k:Nat):Nat:=bif Nat.beq k i then j else bif Nat.beq k j then i else k
theorem rP (i j k:Nat):hC i j k=if k=i then j else if k=j then i else k:=by
  unfold hC;by_cases h:k=i
  · subst h;simp
  · have h1:Nat.beq k i=false:=by cases hb:Nat.beq k i with|false=>rfl|true=>exact absurd (Nat.eq_of_beq_eq_true hb) h
    rw [h1,cond_false,if_neg h];by_cases ab:k=j
    · subst ab;simp
    · have aq:Nat.beq k j=false:=by cases hb:Nat.beq k j with|false=>rfl|true=>exact absurd (Nat.eq_of_beq_eq_true hb) ab
      rw [aq,cond_false,if_neg ab]
theorem u9 (i j k:Nat):hC i j (hC i j k)=k:=by
  simp only [rP]
  repeat' split
  all_goals omega
theorem nv {i j k n:Nat} (hi:i<n) (d:j<n) (hk:k<n):hC i j k<n:=by
  rw [rP];repeat' split
  all_goals omega
def cy.J6 (i j:Nat):cy->cy
  | .v x=> .v x
  | .p k o=> .p (hC i j k) o
def nu (i j:Nat):Env->Env
  |[]=>[]
  |(t,s)::r=>(t,s.J6 i j)::nu i j r
def aX.JE (σ:aX) (i j:Nat):aX:=⟨nu i j σ.env,(List.range σ.aN.length).map fun k=>σ.aN.getD (hC i j k) []⟩
theorem ui {i j t:Nat}:∀e:Env,look (nu i j e) t=(look e t).map (cy.J6 i j)
  |
    []=>rfl
  |(s,x)::r=>by
    simp only [nu,iw];split
    · rfl
    · exact ui r
section
variable {P:Program} {n:Nat} {w0:World} {M:ah} {u:World} {N:ah} {β:Nat->Nat} {σ:aX} {a:Act} {w:World}
theorem ag.JE (S:ag P n w0 M u N β σ a w) (i j:Nat) (hi:Nat.blt i σ.aN.length=true:=by kernel_rfl) (d:Nat.blt j σ.aN.length=true:=by kernel_rfl):ag P n w0 M u N (fun k=>β (hC i j k)) (σ.JE i j) a w:=by
  have hi:i<σ.aN.length:=by simpa [Nat.blt_eq] using hi
  have d:j<σ.aN.length:=by simpa [Nat.blt_eq] using d
  have f:(σ.JE i j).aN.length=σ.aN.length:=by simp [aX.JE]
  have l:∀s:cy,(s.J6 i j).val (fun k=>β (hC i j k))=s.val β:=fun s=>by
    cases s with
    |v x=>rfl
    |p k o=>show aL (β (hC i j (hC i j k))) o=aL (β k) o;rw [u9]
  refine⟨S.Jt,S.ao,fun q s r=>?_,fun q k o r=>?_,fun k t hk=>?_,fun x y hx z h=>?_,fun k hk=>?_,fun b hb=>?_,S.I7,S.fZ⟩
  · rw [show(σ.JE i j).env=nu i j σ.env from rfl,ui] at r;cases hs:look σ.env q with
    |
      none=>rw [hs] at r;cases r
    |some A=>
      rw [hs] at r;simp only [Option.map_some,Option.some.injEq] at r;subst r;rw [l];exact S.env q A hs
  · rw [show(σ.JE i j).env=nu i j σ.env from rfl,ui] at r;rw [f];cases hs:look σ.env q with
    |
      none=>rw [hs] at r;cases r
    |some A=>
      rw [hs] at r;simp only [Option.map_some,Option.some.injEq] at r;cases A with
      |v x=>cases r
      |p A bu=>
        cases r;exact nv hi d (S.ok q A o hs)
  · have A:k<σ.aN.length:=by rw [←f];exact(List.getElem?_eq_some_iff.1 hk).1
    have aq:=nv hi d A;simp only [aX.JE,List.getElem?_map,List.getElem?_range A,Option.map_some,Option.some.injEq] at hk;rw [List.getD_eq_getElem?_getD,List.getElem?_eq_getElem aq,Option.getD_some] at hk;exact S.box _ t (by rw [List.getElem?_eq_getElem aq,hk])
  · rw [f] at hx z;have:=S.inj _ _ (nv hi d hx) (nv hi d z) h;rw [←u9 i j x,this,u9]
  · rw [f] at hk;exact S.new _ (nv hi d hk)
  · obtain⟨h1,ab,aq⟩:=S.sep b hb;exact⟨h1,ab,fun k hk=>aq _ (nv hi d (by rwa [f] at hk))⟩
theorem en.J6 {m:Nat} {β0:Nat->Nat} (h:en m β0 β) (i j:Nat) (hi:Nat.ble m i=true:=by kernel_rfl) (d:Nat.ble m j=true:=by kernel_rfl):en m β0 (fun k=>β (hC i j k)):=fun k hk=>by
  have h1:=Nat.le_of_ble_eq_true hi;have ab:=Nat.le_of_ble_eq_true d;show β (hC i j k)=β0 k;rw [rP,if_neg V,if_neg V];exact h k hk
end
end Go.Proofs.YtkggcdhigchepaaGreat
namespace Go.Proofs.YtkggcdhigchepaaGreat
open Go
set_option linter.unusedVariables false
def hz:List (Nat×Ask×Value)->Nat->List (Ask×Value)
  |[],_=>[]
  |(j,c)::r,i=>bif Nat.beq j i then [c] else hz r i
abbrev r3:=List (aX×List Nat)×List (Nat×List (Ask×Value))×List (List (List Value))
def AA (g:Nat->Option r3):List Nat->Option r3
  |
    []=>some ([],[],[])
  |i::r=>match g i,AA g r with
    |some x,some y=>some (x.1++y.1,x.2.1++y.2.1,x.2.2++y.2.2)
    |_,_=>none
def rY (P:Program) (n:Nat) (ops:Array Oper) (st uy:Nat) (gi:List (Nat×Ask×Value)):Nat->Array Bool->aX->List Nat->Option r3
  |
    0,l,σ,oc=>match Region.ready .any ops l with
    |[]=>some ([(σ,oc)],[],[])
    |_=>none
  |f+1,l,σ,oc=>match Region.ready .any ops l with
    |
      []=>some ([(σ,oc)],[],[])
    |i::r=>AA (fun i=>match gA P n ops i 1 σ ((hz gi i).map (·.2)) (pn ops i (fA σ.env)) 1000 with
      |
        none=>none
      |some z=>(rY P n ops st uy gi f (l.setIfInBounds i true) z.1 (bif Nat.blt σ.aN.length z.1.aN.length then oc++[i] else oc)).map fun x=>
        (x.1,(i,z.2)::x.2.1,bif (l.setIfInBounds i true).getD st false then x.2.2 else z.1.aN.take uy::x.2.2)) (i::r)
def HB (keep:List Nat) (m:Nat):aX×List Nat->aX
  |(σ,[i,j])=>bif Nat.blt j i then(fun s:aX=>(⟨s.keep m keep,s.aN.take m⟩:aX)) (σ.JE (σ.aN.length-2) (σ.aN.length-1)) else⟨σ.keep m keep,σ.aN.take m⟩
  |(σ,_)=>⟨σ.keep m keep,σ.aN.take m⟩
def Iu (P:Program) (n:Nat) (ops:Array Oper) (st:Nat) (aN:List (List Value)) (gi:List (Nat×Ask×Value)) (f:Nat) (l:Array Bool) (σ σ':aX) (c:Nat):Prop:=
  (rY P n ops st aN.length gi f l σ []).isSome=true/\
  (rY P n ops st aN.length gi f l σ []).map (fun z=>(z.1.map (HB (fA σ'.env) σ'.aN.length),z.2.1.map (·.2),z.2.2,z.1.all (fun x=>Nat.ble 2 x.1.aN.length||Nat.blt x.2.length 2)))=
  (rY P n ops st aN.length gi f l σ []).map (fun z=>(List.replicate c σ',z.2.1.map (fun e=>hz gi e.1),List.replicate z.2.2.length aN,true))
theorem q1 {P:Program} {u:World} {N:ah}:∀{d:List (Nat×Ask×Value)} {i:Nat},cm P u N (d.map (·.2))->cm P u N (hz d i)
  |
    [],_,_=>trivial
  |(j,c)::r,i,h=>by
    unfold hz;cases Nat.beq j i
    · exact q1 h.2
    · exact⟨h.1,trivial⟩
section
variable {P:Program} {n:Nat} {w0:World} {M:ah} {u:World} {N:ah} {ops:Array Oper} {R:Act->World->Prop} {st:Nat} {u0:World} {N0:ah} {β0:Nat->Nat} {aN:List (List Value)}
def fe (P:Program) (u:World) (N:ah) (gi:List (Nat×Ask×Value)):Prop:=cm P u N (gi.map (·.2))
theorem fe.nil:fe P u N []:=trivial
theorem fe.cons (i:Nat) {q:Ask} {v:Value} {l:List (Nat×Ask×Value)} (h:dn P u N q v) (t:fe P u N l):fe P u N ((i,q,v)::l):=⟨h,t⟩
end
end Go.Proofs.YtkggcdhigchepaaGreat
namespace Go.Proofs.YtkggcdhigchepaaGreat
open Go
set_option linter.unusedVariables false
set_option linter.unusedSimpArgs false
def gG (n a b:Int):Int:=if b<a\/n<a then a else if n>b then b else n
theorem vA (n:Int):0<=gG n 0 24/\gG n 0 24<=24:=by
  unfold gG;split
  · omega
  · split<;>omega
theorem Gu {α:Type} {n k:Nat} {x:α} (h:n=k+1):List.replicate n x=List.replicate k x++[x]:=by
  subst h;exact List.replicate_succ'
def eJ (b:aI) (g:Int) (x:ai):aI:=if 0<=g/\g<b.L.length then⟨b.Iy,b.L.set g.toNat x,b.ID,b.IA⟩ else b
def ca (b:aI) (g:Int) (c:Bool) (F:ai->ai):aI×Bool:=
  if c_ b=true/\(0<=g/\g<b.L.length)/\c=true then(⟨b.Iy,b.L.set g.toNat (F (el b.L g.toNat)),b.ID,b.IA⟩,true) else(b,false)
def cF (x:ay):aI:=⟨List.replicate 8 (List.replicate 4 0),x.L,x.ID,x.IA⟩
def ec (h:aa) (m:Int) (b:aI):aa:=⟨h.Iy,h.H.set m.toNat {el h.H m.toNat with L:=b.L,IA:=b.IA},h.IB,h.IC⟩
def dO (h:aa) (m:Int):Bool:=b8 h&&av m 0 ((h.H.length:Int)-1)
theorem fP {h:aa} {m:Int} (e:dO h m=true):b8 h=true/\0<=m/\m<h.H.length:=by
  simp only [dO,Bool.and_eq_true] at e;have:=bj e.2;exact⟨e.1,V,V⟩
theorem gQ {h:aa} {m:Int} (e:b8 h=true/\0<=m/\m<h.H.length):dO h m=true:=by
  simp only [dO,e.1,Bool.true_and,av,Bool.and_eq_true,decide_eq_true_eq];omega
def bt (h:aa) (m:Int) (r:aI×Bool):aa×Bool:=
  if(b8 h=true/\0<=m/\m<h.H.length)/\r.2=true then(ec h m r.1,true) else(h,false)
theorem nE {h:aa} {m:Int} {b:aI} (hm:0<=m/\m<h.H.length):
    (h.H.set m.toNat {el h.H m.toNat with L:=b.L}).set m.toNat {el (h.H.set m.toNat {el h.H m.toNat with L:=b.L}) m.toNat with IA:=b.IA}=h.H.set m.toNat {el h.H m.toNat with L:=b.L,IA:=b.IA}:=by
  rw [b4 (show m.toNat<h.H.length by omega),List.set_set]
theorem vv {h:aa} {m:Int} {b:aI} (hm:0<=m/\m<h.H.length) (h1:b.L=(el h.H m.toNat).L) (ab:b.IA=(el h.H m.toNat).IA):ec h m b=h:=by
  unfold ec;rw [h1,ab];show(⟨h.Iy,h.H.set m.toNat (el h.H m.toNat),h.IB,h.IC⟩:aa)=h;rw [rH (show m.toNat<h.H.length by omega)]
theorem xC {α d:Type} [GT α] {f:Option d->α->Option d} (bc:∀x,f none x=none):∀(xs:List α) (l:Option d),(xs.foldl f l).isSome=true->∀k,k<xs.length->∃u,(f (some u) (el xs k)).isSome=true
  |
    [],_,_,k,hk=>by simp at hk
  |x::r,l,h,k,hk=>by
    have A:∀B:List α,B.foldl f none=none:=fun B=>by
      induction B with
      |nil=>rfl
      |cons y r B=>simp only [List.foldl_cons,bc,B]
    rw [List.foldl_cons] at h;cases k with
    |zero=>
      cases l with
      |none=>rw [bc,A] at h;cases h
      |some u=>
        refine⟨u,?_⟩;show(f (some u) x).isSome=true;cases e:f (some u) x with
        |none=>rw [e,A] at h;cases h
        |some _=>rfl
    |succ k=>
      obtain⟨u,hu⟩:=xC bc r _ h k (by simpa using hk);exact⟨u,by rw [show el (x::r) (k+1)=el r k by simp [el]];exact hu⟩
theorem iQ {h:aa} (e:b8 h=true) {k:Nat} (hk:k<h.H.length):ed (el h.H k)=true:=by
  simp only [b8,Bool.and_eq_true] at e;obtain⟨d,hu⟩:=xC ou h.H _ e.2 k hk;unfold iF at hu;simp only [Option.bind_some] at hu;split at hu
  · assumption
  · cases hu
theorem Gj {m:List (List Int)} {n p:Int} (h:ey m n=true):dV (eI m p)=true:=by
  unfold eI;split
  · simp only [ey,Bool.and_eq_true] at h;exact ja h.1 V
  · decide
theorem Gk {h:aa} (e:b8 h=true) {m:Int} (hm:0<=m/\m<h.H.length) (p:Int):dV (jl h m p)=true:=by
  have f:=iQ e (k:=m.toNat) V;have q:ey h.Iy 12=true:=by
    simp only [b8,iO,Bool.and_eq_true] at e;exact e.1.1.1.1
  unfold jl;split
  · rename_i aY;split
    · exact Gj q
    · rename_i o;have w:=(jy f).1;have r:0<=p/\p<((el h.H m.toNat).ad.length:Int):=by omega
      have d:=oz (jy f).2 (k:=p.toNat) V;have l:hn (el h.H m.toNat) p.toNat=true:=by
        simp only [ed,Bool.and_eq_true] at f;exact ry f.2 V
      have t:b9 (el h.H m.toNat).ad p=el (el h.H m.toNat).ad p.toNat:=by
        unfold b9;rw [if_pos r]
      rw [t] at o;have u:el (el h.H m.toNat).ad p.toNat=⟨-1,0⟩:=by
        simp only [c4,Bool.or_eq_true,Bool.and_eq_true,decide_eq_true_eq] at d;rcases d with d|d
        · exact d
        · have:=bj d.1.2;exact absurd (by omega:(el (el h.H m.toNat).ad p.toNat).Z≠ -1) o
      unfold hn at l;rw [if_pos u] at l;unfold eI;split
      · exact l
      · decide
  · decide
theorem vi {x:ay} (h:ed x=true):c_ (cF x)=true:=by
  simp only [ed,hh,jk,Bool.and_eq_true] at h;simp only [c_,cF,Bool.and_eq_true];exact⟨⟨⟨⟨h.1.2,by decide⟩,h.1.1.1.1.1.1.1⟩,h.1.1.2.1.1.1⟩,h.1.1.2.1.1.2⟩
theorem rE {h:aa} (e:b8 h=true) {m:Int} (hm:0<=m/\m<h.H.length):c_ (aJ h m)=true:=by
  have d:=vi (iQ e (k:=m.toNat) V);simp only [c_,cF,Bool.and_eq_true] at d;unfold aJ;rw [if_pos hm];simp only [c_,Bool.and_eq_true];refine⟨⟨⟨⟨d.1.1.1.1,?_⟩,d.1.1.2⟩,d.1.2⟩,d.2⟩;simp only [ey,Bool.and_eq_true,beq_iff_eq];refine⟨?_,aM⟩;rw [List.all_eq_true];intro x hx;obtain⟨i,_,rfl⟩:=List.mem_map.1 hx;exact Gk e hm _
structure Loc (r:aI->aI×Bool):Prop where
  eq:∀b lG,c_ b=c_ lG->b.L=lG.L->b.ID=lG.ID->b.IA=lG.IA->(r b).2=(r lG).2/\(r b).1.L=(r lG).1.L/\(r b).1.IA=(r lG).1.IA
  no:∀b,(r b).2=false->(r b).1.L=b.L/\(r b).1.IA=b.IA
theorem g2 {r:aI->aI×Bool} (aU:Loc r) {h:aa} {m:Int} (e:b8 h=true/\0<=m/\m<h.H.length):
    bt h m (r (aJ h m))=(ec h m (r (cF (el h.H m.toNat))).1,(r (cF (el h.H m.toNat))).2):=by
  have h1:=rE e.1 e.2;have ab:=vi (iQ e.1 (k:=m.toNat) V);have d:aJ h m=⟨(List.range 8).map (fun(i:Nat)=>jl h m (i:Int)),(el h.H m.toNat).L,(el h.H m.toNat).ID,(el h.H m.toNat).IA⟩:=by unfold aJ;rw [if_pos e.2]
  obtain⟨f,l,o⟩:=aU.eq (aJ h m) (cF (el h.H m.toNat)) (h1.trans ab.symm) (by rw [d];rfl) (by rw [d];rfl) (by rw [d];rfl);unfold bt;cases q:(r (cF (el h.H m.toNat))).2 with
  |true=>
    rw [if_pos ⟨e,f.trans q⟩];unfold ec;rw [l,o]
  |false=>
    rw [if_neg (fun A=>by rw [f,q] at A;cases A.2)];obtain⟨B,C⟩:=aU.no _ q;rw [vv e.2 B C]
theorem ni (g:Int) (C:List ai->Bool) (F:List ai->ai->ai):Loc (fun b=>ca b g (C b.L) (F b.L)) where
  eq b d h1 ab _ bg:=by
    simp only [ca];rw [h1,ab];split
    · exact⟨rfl,rfl,bg⟩
    · exact⟨rfl,ab,bg⟩
  no b h:=by
    simp only [ca] at h ⊢;split at h
    · cases h
    · rename_i bc;rw [if_neg bc];exact⟨rfl,rfl⟩
theorem GW (h:aa) (m:Int) (b:aI) (hm:0<=m/\m<h.H.length):al.ao (ec h m b)<=2*al.ao h+al.ao b.L:=by
  have h1:=va h m.toNat {el h.H m.toNat with L:=b.L,IA:=b.IA};have ab:=rQ (h:=h) (k:=m.toNat) V;have aq:=fk (el h.H m.toNat);have bg:=fk {el h.H m.toNat with L:=b.L,IA:=b.IA};unfold ec;simp only at h1 bg ⊢;omega
theorem lA (h:aa) (m:Int) (r:aI×Bool):al.ao (bt h m r).1<=2*al.ao h+al.ao r.1.L:=by
  unfold bt;split
  · rename_i e;exact GW h m r.1 e.1.2
  · simp only;omega
theorem Hr (gs:List ai) (k:Nat) (y:ai):al.ao (gs.set k y)<=al.ao gs+al.ao y:=by
  have d:=cg gs;have A:=cg (gs.set k y);rw [List.length_set] at A;by_cases hk:k<gs.length
  · have:=iW (y:=y) hk;omega
  · rw [List.set_eq_of_length_le V] at*;omega
theorem G6 {gs:List ai} {k:Nat} (hk:k<gs.length):al.ao (el gs k)<=al.ao gs:=by
  have ab:=rR hk;have aq:=cg gs;omega
theorem nw (b:aI) (g:Int) (c:Bool) (F:ai->ai) (d:Nat) (f:∀x,al.ao (F x)<=al.ao x+d):al.ao (ca b g c F).1.L<=2*al.ao b.L+d:=by
  unfold ca;split
  · rename_i e;have h1:=Hr b.L g.toNat (F (el b.L g.toNat));have ab:=G6 (gs:=b.L) (k:=g.toNat) V;have aq:=f (el b.L g.toNat);simp only;omega
  · simp only;omega
theorem lB (h:aa) (m:Int):al.ao (aJ h m).L<=al.ao h:=by
  unfold aJ;split
  · have ab:=rQ (h:=h) (k:=m.toNat) V;have aq:=fk (el h.H m.toNat);simp only;omega
  · exact Nat.zero_le _
def eg (b:aI) (g:Int) (c:cj):aI×Bool:=ca b g (eF c) (fun x=>{x with IJ:=c})
def e5 (h:aa) (m g:Int) (c:cj):aa×Bool:=bt h m (eg (aJ h m) g c)
theorem zf (g:Int) (c:cj):Loc (fun b=>eg b g c):=ni g (fun _=>eF c) (fun _ x=>{x with IJ:=c})
theorem Ha (h:aa) (m g:Int) (c:cj):al.ao (e5 h m g c).1<=4*al.ao h:=by
  have h1:=lA h m (eg (aJ h m) g c);have ab:=nw (aJ h m) g (eF c) (fun x=>{x with IJ:=c}) 0 (fun x=>Nat.le_refl _);have aq:=lB h m;unfold e5;unfold eg at h1 ⊢;omega
theorem zi (n:Int):Loc (fun b=>dE b n) where
  eq b d h1 ab aq bg:=by
    obtain⟨m,gs,f,p⟩:=b;obtain⟨l,o,q,r⟩:=d;simp only at ab aq bg;subst ab aq bg;simp only [dE];rw [h1];split
    · exact⟨rfl,rfl,rfl⟩
    · exact⟨rfl,rfl,rfl⟩
  no b h:=by
    simp only [dE] at h ⊢;split at h
    · cases h
    · rename_i bc;rw [if_neg bc];exact⟨rfl,rfl⟩
def fI (h:aa) (m n:Int):aa×Bool:=bt h m (dE (aJ h m) n)
theorem Hv (n:Int) (gs:List ai) (g:Int):al.ao (jD n gs g)=al.ao gs:=by
  unfold jD;have d:=cg gs;have A:=cg (gs.set g.toNat {el gs g.toNat with IA:=(bR (el gs g.toNat).IA n).1});rw [List.length_set] at A;by_cases hk:g.toNat<gs.length
  · have h1:=iW (y:={el gs g.toNat with IA:=(bR (el gs g.toNat).IA n).1}) hk;have ab:al.ao ({el gs g.toNat with IA:=(bR (el gs g.toNat).IA n).1}:ai)=al.ao (el gs g.toNat):=rfl;rw [ab] at h1;omega
  · rw [List.set_eq_of_length_le V]
theorem Ah (n:Int):∀(l:List Int) (gs:List ai),al.ao (l.foldl (jD n) gs)=al.ao gs
  |[],_=>rfl
  |g::r,gs=>by rw [List.foldl_cons,Ah n r,Hv]
theorem Hf (h:aa) (m n:Int):al.ao (fI h m n).1<=4*al.ao h:=by
  have h1:=lA h m (dE (aJ h m) n);have aq:=lB h m;have ab:al.ao (dE (aJ h m) n).1.L=al.ao (aJ h m).L:=by
    unfold dE;split
    · exact Ah n _ _
    · rfl
  unfold fI;omega
def eh (b:aI) (g n:Int):aI×Bool:=ca b g (bR (aZ b g).1.IA n).2 (fun x=>{x with IA:=(bR (aZ b g).1.IA n).1})
theorem zh (g n:Int):Loc (fun b=>eh b g n):=ni g (fun gs=>(bR (aZ ⟨[],gs,[],0⟩ g).1.IA n).2) (fun gs x=>{x with IA:=(bR (aZ ⟨[],gs,[],0⟩ g).1.IA n).1})
theorem Gl {p n:Int} (h:(bR p n).2=false):(bR p n).1=p:=by
  unfold bR at h ⊢;split at h
  · cases h
  · rename_i bc;rw [if_neg bc]
theorem E0 {b:aI} {g n:Int} (h:ei b g=true):eh b g n=(⟨b.Iy,b.L.set g.toNat {el b.L g.toNat with IA:=(bR (el b.L g.toNat).IA n).1},b.ID,b.IA⟩,(bR (el b.L g.toNat).IA n).2):=by
  have h1:=jw h;unfold eh ca;rw [s4 h1.2];cases hc:(bR (el b.L g.toNat).IA n).2 with
  |true=>rw [if_pos ⟨h1.1,h1.2,rfl⟩]
  |false=>
    rw [if_neg (fun e=>by cases e.2.2),Gl hc];show(b,false)=((⟨b.Iy,b.L.set g.toNat (el b.L g.toNat),b.ID,b.IA⟩:aI),false);rw [rH (show g.toNat<b.L.length by omega)]
theorem E1 {b:aI} {g n:Int} (h:ei b g=false):eh b g n=(b,false):=by
  unfold eh ca;rw [if_neg (fun e=>by rw [uf e.1 e.2.1] at h;cases h)]
def fG (h:aa) (m g n:Int):aa×Bool:=bt h m (eh (aJ h m) g n)
theorem Hd (h:aa) (m g n:Int):al.ao (fG h m g n).1<=4*al.ao h:=by
  have h1:=lA h m (eh (aJ h m) g n);have ab:=nw (aJ h m) g (bR (aZ (aJ h m) g).1.IA n).2 (fun x=>{x with IA:=(bR (aZ (aJ h m) g).1.IA n).1}) 0 (fun x=>Nat.le_refl _);have aq:=lB h m;unfold fG;unfold eh at h1 ⊢;omega
def aV (g:ai):ai:={g with ar:=if g.ar>=12 then 12 else g.ar+1}
def dj (g:ai):ai:=aV {g with IX:=true}
def cu (b:aI) (g:Int):bn:=(aZ b g).1.exit
theorem xo {K:Nat} {F:ah} {w:World} {b:aI} {p:bM} (h:GT.rd K F w b p) (g:Int):ct (cu b g):=by
  unfold cu aZ;split
  · exact ax.exit (ae.el (bI.L h) g.toNat V)
  · exact⟨⟨by decide,by decide⟩,⟨by decide,by decide⟩,⟨by decide,by decide⟩⟩
def ho (aO:Int) (x:ai):ai:=if aO=4 then dj {x with exit:=⟨0,0,false,0⟩} else {x with exit:=⟨0,0,false,0⟩}
def dT (b:aI) (g:Int):aI×Bool:=ca b g ((cu b g).aO==1||(cu b g).aO==4) (fun x=>ho (cu b g).aO x)
theorem zj (g:Int):Loc (fun b=>dT b g):=ni g (fun gs=>((cu ⟨[],gs,[],0⟩ g).aO==1||(cu ⟨[],gs,[],0⟩ g).aO==4)) (fun gs x=>ho (cu ⟨[],gs,[],0⟩ g).aO x)
theorem mE {b:aI} {g:Int} (h:ei b g=true):cu b g=(el b.L g.toNat).exit:=by
  unfold cu;rw [s4 (jw h).2]
theorem mx {b:aI} {g:Int} {c:Bool} {F:ai->ai} (h:ei b g=true) (hc:c=true):ca b g c F=(⟨b.Iy,b.L.set g.toNat (F (el b.L g.toNat)),b.ID,b.IA⟩,true):=by
  have h1:=jw h;unfold ca;rw [if_pos ⟨h1.1,h1.2,hc⟩]
theorem pe {b:aI} {g:Int} {c:Bool} {F:ai->ai} (h:ei b g=false):ca b g c F=(b,false):=by
  unfold ca;rw [if_neg (fun e=>by rw [uf e.1 e.2.1] at h;cases h)]
theorem my {b:aI} {g:Int} {c:Bool} {F:ai->ai} (hc:c=false):ca b g c F=(b,false):=by
  unfold ca;rw [if_neg (fun e=>by rw [hc] at e;cases e.2.2)]
theorem Gw {b:aI} {g:Int} (h:ei b g=true) (hk:(el b.L g.toNat).exit.aO=1):dT b g=(⟨b.Iy,b.L.set g.toNat {el b.L g.toNat with exit:=⟨0,0,false,0⟩},b.ID,b.IA⟩,true):=by
  unfold dT;rw [mE h,mx h (by rw [hk];rfl),hk];rfl
theorem Gx {b:aI} {g:Int} (h:ei b g=true) (hk:(el b.L g.toNat).exit.aO=4):dT b g=(⟨b.Iy,b.L.set g.toNat (dj {el b.L g.toNat with exit:=⟨0,0,false,0⟩}),b.ID,b.IA⟩,true):=by
  unfold dT;rw [mE h,mx h (by rw [hk];rfl),hk];rfl
theorem Gy {b:aI} {g:Int} (h:ei b g=true) (h1:¬(el b.L g.toNat).exit.aO=1) (bg:¬(el b.L g.toNat).exit.aO=4):dT b g=(b,false):=by
  unfold dT;rw [mE h,my (by simp [h1,bg])]
def fJ (h:aa) (m g:Int):aa×Bool:=bt h m (dT (aJ h m) g)
theorem Hp (k:Int) (x:ai):al.ao (ho k x)<=al.ao x+0:=by
  unfold ho;split<;>exact Nat.le_refl _
theorem Hh (h:aa) (m g:Int):al.ao (fJ h m g).1<=4*al.ao h:=by
  have h1:=lA h m (dT (aJ h m) g);have ab:=nw (aJ h m) g ((cu (aJ h m) g).aO==1||(cu (aJ h m) g).aO==4) (fun x=>ho (cu (aJ h m) g).aO x) 0 (Hp _);have aq:=lB h m;unfold fJ;unfold dT at h1 ⊢;omega
def fl (aO v:Int) (x:ai):ai:=aV {(if aO=2 then {x with aT:=v} else x) with exit:=⟨0,0,false,0⟩}
def dJ (b:aI) (g v:Int):aI×Bool:=ca b g (((cu b g).aO==2||(cu b g).aO==3)&&av v 0 99) (fun x=>fl (cu b g).aO v x)
theorem ze (g v:Int):Loc (fun b=>dJ b g v):=ni g (fun gs=>(((cu ⟨[],gs,[],0⟩ g).aO==2||(cu ⟨[],gs,[],0⟩ g).aO==3)&&av v 0 99)) (fun gs x=>fl (cu ⟨[],gs,[],0⟩ g).aO v x)
theorem A1 {b:aI} {g v:Int} (h:ei b g=true) (d:av v 0 99=true) (hk:(el b.L g.toNat).exit.aO=2):dJ b g v=(⟨b.Iy,b.L.set g.toNat (aV {el b.L g.toNat with aT:=v,exit:=⟨0,0,false,0⟩}),b.ID,b.IA⟩,true):=by
  unfold dJ;rw [mE h,mx h (by rw [hk,d];rfl),hk];rfl
theorem A4 {b:aI} {g v:Int} (h:ei b g=true) (d:av v 0 99=true) (hk:(el b.L g.toNat).exit.aO=3):dJ b g v=(⟨b.Iy,b.L.set g.toNat (aV {el b.L g.toNat with exit:=⟨0,0,false,0⟩}),b.ID,b.IA⟩,true):=by
  unfold dJ;rw [mE h,mx h (by rw [hk,d];rfl),hk];rfl
theorem A2 {b:aI} {g v:Int} (h:ei b g=true) (h1:¬(el b.L g.toNat).exit.aO=2) (bg:¬(el b.L g.toNat).exit.aO=3):dJ b g v=(b,false):=by
  unfold dJ;rw [mE h,my (by simp [h1,bg])]
theorem A3 {b:aI} {g v:Int} (d:av v 0 99=false):dJ b g v=(b,false):=by
  unfold dJ;rw [my (by simp [d])]
def fF (h:aa) (m g v:Int):aa×Bool:=bt h m (dJ (aJ h m) g v)
theorem GV (k v:Int) (x:ai):al.ao (fl k v x)<=al.ao x+0:=by
  unfold fl;split<;>exact Nat.le_refl _
theorem G_ (h:aa) (m g v:Int):al.ao (fF h m g v).1<=4*al.ao h:=by
  have h1:=lA h m (dJ (aJ h m) g v);have ab:=nw (aJ h m) g (((cu (aJ h m) g).aO==2||(cu (aJ h m) g).aO==3)&&av v 0 99) (fun x=>fl (cu (aJ h m) g).aO v x) 0 (GV _ _);have aq:=lB h m;unfold fF;unfold dJ at h1 ⊢;omega
def cb (t:List aw) (p:Int) (s:aw):List aw:=if 0<=p/\p<t.length then t.set p.toNat s else t
def ds (b:aI) (g Z:Int) (s:aw):aI×Bool:=ca b g (av Z 0 3&&c4 s 8) (fun x=>{x with II:=cb x.II Z s})
theorem zk (g Z:Int) (s:aw):Loc (fun b=>ds b g Z s):=ni g (fun _=>av Z 0 3&&c4 s 8) (fun _ x=>{x with II:=cb x.II Z s})
theorem GN {b:aI} {g Z:Int} {s:aw} (h:ei b g=true) (h1:av Z 0 3=true) (ab:c4 s 8=true):ds b g Z s=(⟨b.Iy,b.L.set g.toNat {el b.L g.toNat with II:=cb (el b.L g.toNat).II Z s},b.ID,b.IA⟩,true):=by
  unfold ds;rw [mx h (by rw [h1,ab];rfl)]
theorem GP {b:aI} {g Z:Int} {s:aw} (h:av Z 0 3=false):ds b g Z s=(b,false):=by
  unfold ds;rw [my (by simp [h])]
theorem GQ {b:aI} {g Z:Int} {s:aw} (h:c4 s 8=false):ds b g Z s=(b,false):=by
  unfold ds;rw [my (by simp [h])]
theorem GL {b:aI} {g Z:Int} {s:aw} (h:av Z 0 (4-1)=true):ds b g Z s=ca b g (c4 s 8) (fun x=>{x with II:=cb x.II Z s}):=by
  unfold ds;rw [show av Z 0 3=true from h,Bool.true_and]
theorem GM {b:aI} {g Z:Int} {s:aw} (h:av Z 0 (4-1)=false):ds b g Z s=ca b g false (fun x=>{x with II:=cb x.II Z s}):=by
  unfold ds;rw [show av Z 0 3=false from h,Bool.false_and]
def fK (h:aa) (m g Z:Int) (s:aw):aa×Bool:=bt h m (ds (aJ h m) g Z s)
theorem As (t:List aw) (p:Int) (s:aw):al.ao (cb t p s)=al.ao t:=by
  unfold cb;split
  · rw [cg,cg,List.length_set,eR (fun _=>rfl),eR (fun _=>rfl)]
  · rfl
theorem Hi (h:aa) (m g Z:Int) (s:aw):al.ao (fK h m g Z s).1<=4*al.ao h:=by
  have h1:=lA h m (ds (aJ h m) g Z s);have ab:=nw (aJ h m) g (av Z 0 3&&c4 s 8) (fun x=>{x with II:=cb x.II Z s}) 0 (fun x=>by
    have d:=jE x;have A:=jE {x with II:=cb x.II Z s};have B:=As x.II Z s;simp only at A ⊢;omega)
  have aq:=lB h m;unfold fK;unfold ds at h1 ⊢;omega
end Go.Proofs.YtkggcdhigchepaaGreat
namespace Go.Proofs.YtkggcdhigchepaaGreat
open Go
set_option linter.unusedVariables false
set_option linter.unusedSimpArgs false
def eA (e:aG) (bm Z:Int):Bool:=(e.bm==bm)&&(e.Z==Z)
def fy (b:List aG) (p:aG->Bool):List aG:=b.filter fun e=>!p e
def bE (b:List aG) (bm Z:Int):List aG:=fy b fun e=>eA e bm Z
theorem kf {b:List aG} {p:aG->Bool} {k:Nat} (hk:k<b.length) (h:p (el b k)=true):fy (b.take (k+1)) p=fy (b.take k) p:=by
  unfold fy;rw [eS hk,List.filter_append];simp [h]
theorem iH {b:List aG} {p:aG->Bool} {k:Nat} (hk:k<b.length) (h:p (el b k)=false):fy (b.take (k+1)) p=fy (b.take k) p++[el b k]:=by
  unfold fy;rw [eS hk,List.filter_append];simp [h]
theorem jG (b:List aG) (p:aG->Bool):(fy b p).length<=b.length:=List.length_filter_le _ _
theorem j8 {e:aG} {d Z:Int} (h:¬e.bm=d):eA e d Z=false:=by simp [eA,h]
theorem l5 {e:aG} {d Z:Int} (h:¬e.Z=Z):eA e d Z=false:=by simp [eA,h]
theorem oq {e:aG} {d Z:Int} (h:e.bm=d) (ab:e.Z=Z):eA e d Z=true:=by simp [eA,h,ab]
def bb (m g:Int):Int:=if(0<=m/\m<=2)/\0<=g/\g<=1 then 1+g+m*2 else 0
theorem iG (m g:Int):au (bb m g):=by
  unfold bb;split
  · exact⟨V,V⟩
  · exact⟨by decide,by decide⟩
def bQ (b:aI) (g Z:Int):aI×Bool:=ca b g (av Z 0 3) (fun x=>{x with IF:=cb x.IF Z (b9 x.II Z)})
theorem zg (g Z:Int):Loc (fun b=>bQ b g Z):=ni g (fun _=>av Z 0 3) (fun _ x=>{x with IF:=cb x.IF Z (b9 x.II Z)})
theorem En {b:aI} {g Z:Int} (h:ei b g=true) (h1:av Z 0 3=true):bQ b g Z=(⟨b.Iy,b.L.set g.toNat {el b.L g.toNat with IF:=cb (el b.L g.toNat).IF Z (b9 (el b.L g.toNat).II Z)},b.ID,b.IA⟩,true):=by
  unfold bQ;rw [mx h h1]
theorem Eo {b:aI} {g Z:Int} (h:av Z 0 3=false):bQ b g Z=(b,false):=by
  unfold bQ;rw [my h]
theorem w3 {b:aI} {g:Int} {c:Bool} {F:ai->ai} (h:(ca b g c F).2=true):0<=g/\g<b.L.length:=by
  unfold ca at h;split at h
  · rename_i e;exact e.2.1
  · cases h
theorem A8 {x:ay} {g Z:Int} (h:(bQ (cF x) g Z).2=true):0<=g/\g<x.L.length:=w3 (b:=cF x) h
def ig (h:aa) (m g Z:Int):aa:=
  ⟨h.Iy,h.H.set m.toNat {el h.H m.toNat with Iz:=(el h.H m.toNat).Iz.set g.toNat (cS (el (el h.H m.toNat).Iz g.toNat) Z)},bE h.IB (bb m g) Z,bE h.IC (bb m g) Z⟩
def e6 (h:aa) (m g Z:Int):aa×Bool:=
  if(bt h m (bQ (aJ h m) g Z)).2=true then(ig (bt h m (bQ (aJ h m) g Z)).1 m g Z,true) else(h,false)
theorem Gt {h:aa} {m:Int} {r:aI×Bool} (e:(bt h m r).2=false):(bt h m r).1=h:=by
  unfold bt at e ⊢;split at e
  · cases e
  · rename_i bc;rw [if_neg bc]
theorem z1 {h:aa} {m:Int} {r:aI×Bool} (e:(bt h m r).2=true):(b8 h=true/\0<=m/\m<h.H.length)/\r.2=true/\(bt h m r).1=ec h m r.1:=by
  unfold bt at e ⊢;split at e
  · rename_i bc;exact⟨bc.1,bc.2,by rw [if_pos bc]⟩
  · cases e
theorem jM (h:aa) (m:Int) (b:aI):(ec h m b).H.length=h.H.length/\(el (ec h m b).H m.toNat).Iz.length=(el h.H m.toNat).Iz.length:=by
  refine⟨by simp [ec],?_⟩;unfold ec;by_cases hk:m.toNat<h.H.length
  · simp only;rw [b4 hk]
  · simp only;rw [List.set_eq_of_length_le V]
theorem zr {x:ay} (h:ed x=true):x.Iz.length=x.L.length:=by
  simp only [ed,hh,Bool.and_eq_true,decide_eq_true_eq] at h;exact h.1.1.1.1.1.1.2
theorem lh {h:aa} {m:Int} (e:dO h m=true):0<=m/\m<h.H.length/\(el h.H m.toNat).Iz.length=(el h.H m.toNat).L.length:=by
  have h1:=fP e;exact⟨h1.2.1,h1.2.2,zr (iQ h1.1 V)⟩
theorem Gs {h:aa} {m g Z:Int} (e:(bt h m (bQ (aJ h m) g Z)).2=true):
    (0<=m/\m<(bt h m (bQ (aJ h m) g Z)).1.H.length)/\0<=g/\g<(el (bt h m (bQ (aJ h m) g Z)).1.H m.toNat).Iz.length:=by
  obtain⟨h1,ab,aq⟩:=z1 e;have bg:=jM h m (bQ (aJ h m) g Z).1;have d:=w3 (b:=aJ h m) ab;have f:=zr (iQ h1.1 (k:=m.toNat) V);rw [show(aJ h m).L=(el h.H m.toNat).L by unfold aJ;rw [if_pos h1.2]] at d;rw [aq];omega
theorem EU {h:aa} {m g Z:Int} (e:(bt h m (bQ (aJ h m) g Z)).2=false):e6 h m g Z=((bt h m (bQ (aJ h m) g Z)).1,false):=by
  unfold e6;rw [if_neg (by rw [e];exact fun h=>by cases h),Gt e]
theorem x3 {h:aa} {m g Z:Int} (e:(bt h m (bQ (aJ h m) g Z)).2=true):e6 h m g Z=(ig (bt h m (bQ (aJ h m) g Z)).1 m g Z,true):=by
  unfold e6;rw [if_pos e]
theorem x1 {h:aa} {m g Z:Int} (e:dO h m=false):e6 h m g Z=(h,false):=by
  unfold e6;rw [if_neg (fun h1=>by rw [gQ (z1 h1).1] at e;cases e)]
theorem x2 {h:aa} {m g Z:Int} (e:dO h m=true) (h1:(bQ (cF (el h.H m.toNat)) g Z).2=false):e6 h m g Z=(h,false):=by
  have ab:=g2 (zg g Z) (fP e);have aq:(bt h m (bQ (aJ h m) g Z)).2=false:=by rw [ab];exact h1
  unfold e6;rw [if_neg (by rw [aq];exact fun h=>by cases h)]
theorem p6 {h:aa} {m g Z:Int} (e:dO h m=true) (h1:(bQ (cF (el h.H m.toNat)) g Z).2=true):e6 h m g Z=(ig (ec h m (bQ (cF (el h.H m.toNat)) g Z).1) m g Z,true):=by
  have ab:=g2 (zg g Z) (fP e);have aq:(bt h m (bQ (aJ h m) g Z)).2=true:=by rw [ab];exact h1
  unfold e6;rw [if_pos aq];have bg:(bt h m (bQ (aJ h m) g Z)).1=ec h m (bQ (cF (el h.H m.toNat)) g Z).1:=by rw [ab]
  rw [bg]
theorem Ai (k:a6) (p:Int):al.ao (cS k p)=al.ao k:=by
  have h:=xE k p;have h1:=jF k;have ab:=jF (cS k p);rw [cg,cg,eR (fun _=>rfl),eR (fun _=>rfl)] at h1 ab;omega
theorem Ag (b:List aG) (t p:Int):al.ao (bE b t p)<=al.ao b:=by
  have h:=jG b (fun e=>eA e t p);unfold bE;rw [cg,cg,eR (fun _=>rfl),eR (fun _=>rfl)];omega
theorem Ht (t:List a6) (k:Nat) (p:Int):al.ao (t.set k (cS (el t k) p))=al.ao t:=by
  have d:=cg t;have A:=cg (t.set k (cS (el t k) p));rw [List.length_set] at A;by_cases hk:k<t.length
  · have h1:=iW (y:=cS (el t k) p) hk;rw [Ai] at h1;omega
  · rw [List.set_eq_of_length_le V]
theorem G2 (h:aa) (m g Z:Int):al.ao (ig h m g Z)<=2*al.ao h:=by
  have h1:=va h m.toNat {el h.H m.toNat with Iz:=(el h.H m.toNat).Iz.set g.toNat (cS (el (el h.H m.toNat).Iz g.toNat) Z)};have ab:=fj h;have aq:=fj (⟨h.Iy,h.H.set m.toNat {el h.H m.toNat with Iz:=(el h.H m.toNat).Iz.set g.toNat (cS (el (el h.H m.toNat).Iz g.toNat) Z)},h.IB,h.IC⟩:aa);have bg:=fj (ig h m g Z);have d:=Ag h.IB (bb m g) Z;have A:=Ag h.IC (bb m g) Z;have A:(ig h m g Z).Iy=h.Iy:=rfl;have B:(ig h m g Z).H=h.H.set m.toNat {el h.H m.toNat with Iz:=(el h.H m.toNat).Iz.set g.toNat (cS (el (el h.H m.toNat).Iz g.toNat) Z)}:=rfl;have C:(ig h m g Z).IB=bE h.IB (bb m g) Z:=rfl;have D:(ig h m g Z).IC=bE h.IC (bb m g) Z:=rfl;rw [A,B,C,D] at bg;have F:=fk (el h.H m.toNat);have A:=fk {el h.H m.toNat with Iz:=(el h.H m.toNat).Iz.set g.toNat (cS (el (el h.H m.toNat).Iz g.toNat) Z)};have B:=Ht (el h.H m.toNat).Iz g.toNat Z;simp only at h1 aq bg A;by_cases hk:m.toNat<h.H.length
  · have A:=rQ hk;omega
  · rw [List.set_eq_of_length_le V] at bg;omega
theorem Hc (h:aa) (m g Z:Int):al.ao (e6 h m g Z).1<=8*al.ao h:=by
  have h1:=lA h m (bQ (aJ h m) g Z);have ab:=nw (aJ h m) g (av Z 0 3) (fun x=>{x with IF:=cb x.IF Z (b9 x.II Z)}) 0 (fun x=>by
    have d:=jE x;have A:=jE {x with IF:=cb x.IF Z (b9 x.II Z)};have B:=As x.IF Z (b9 x.II Z);simp only at A ⊢;omega)
  have aq:=lB h m;have bg:=G2 (bt h m (bQ (aJ h m) g Z)).1 m g Z;unfold e6;split
  · unfold bQ at h1 bg ⊢;simp only;omega
  · simp only;omega
end Go.Proofs.YtkggcdhigchepaaGreat
namespace Go.Proofs.YtkggcdhigchepaaGreat
open Go
set_option linter.unusedVariables false
section
variable {w0:World} {M:ah} {u:World} {N:ah}
theorem U.sub {f B C:ah} (d:U f B) (h:∀b,C b->B b):U f C:=fun b x A=>d b x (h b A)
def hT (p p':a1):Prop:=p'.H.1=p.H.1
theorem dm {α:Type} [GT α] {K:Nat} {xs:List α} {p:ak α} {d:gE} (h:p.1=d) (f:GT.rd K N u xs p):GT.rd K N u xs ((d,p.2):ak α):=h▸f
theorem ED {h:aa} {q:ak aa} {F:ah} (o:af w0 M u N F [h] q):
    ∃
      d:ah,af w0 M u N d h.H (q.2 0).H/\(∀b,d b->F b)/\∀(f:World) (l:ah) (y:List ay) (r:Nat->cA) (t Fy:ah),(∀b,N b->¬d b->l b/\f.heap[b]? =u.heap[b]?)->af w0 M f l t y (((q.2 0).H.1,r):ak ay)->(∀b,t b->d b\/Fy b)->U F Fy->y.length=h.H.length->(∀b,d b->l b)->
      ∃w:Nat->a1,af w0 M f l (Or F t) [{h with H:=y}] ((q.1,w):ak aa)/\(w 0).H.1=(q.2 0).H.1:=by
  obtain⟨d,h1,ab,aq⟩:=Ep o (k:=0) (Nat.succ_pos 0);exact⟨d,h1,ab,fun f l y r t Fy a b c A e B=>⟨_,aq f l y ((q.2 0).H.1,r) t Fy a b c A (by show [J _ _]=[J _ _];rw [e];rfl) B,rfl⟩⟩
theorem sO {K:Nat} {h:aa} {q:ak aa} (o:GT.rd K N u [h] q):GT.rd K N u h.Iy (q.2 0).Iy:=a4.Iy (d:=h) (ae.el o 0 (Nat.succ_pos 0))
theorem bZ {K:Nat} {h:aa} {q:ak aa} (o:GT.rd K N u [h] q):GT.rd K N u h.H (q.2 0).H:=a4.H (d:=h) (ae.el o 0 (Nat.succ_pos 0))
theorem dx {K:Nat} {a:List (List Int)} {b:List ay} {c d:List aG} {q:ak aa} (o:GT.rd K N u [(⟨a,b,c,d⟩:aa)] q):GT.rd K N u b (q.2 0).H:=bZ o
theorem pc {K:Nat} {h:aa} {q:ak aa} (o:GT.rd K N u [h] q):GT.rd K N u h.IB (q.2 0).IB:=a4.IB (d:=h) (ae.el o 0 (Nat.succ_pos 0))
theorem wY {K:Nat} {a:List (List Int)} {b:List ay} {c d:List aG} {q:ak aa} (o:GT.rd K N u [(⟨a,b,c,d⟩:aa)] q):GT.rd K N u c (q.2 0).IB:=pc o
theorem pd {K:Nat} {h:aa} {q:ak aa} (o:GT.rd K N u [h] q):GT.rd K N u h.IC (q.2 0).IC:=a4.IC (d:=h) (ae.el o 0 (Nat.succ_pos 0))
theorem wZ {K:Nat} {a:List (List Int)} {b:List ay} {c d:List aG} {q:ak aa} (o:GT.rd K N u [(⟨a,b,c,d⟩:aa)] q):GT.rd K N u d (q.2 0).IC:=pd o
theorem hr {d:Type} [GT d] {h:aa} {q:ak aa} {F:ah} {m:Nat} {f:List d} {l:ak d} {r:List d->ay} (o:af w0 M u N F [h] q)
    (aF:∀F:ah,af w0 M u N F h.H (q.2 0).H->∃t:ah,af w0 M u N t f l/\(∀b,t b->F b)/\∀(w:World) (z:ah) (y:List d) (A:ak d) (B Fy:ah),(∀b,N b->¬t b->z b/\w.heap[b]? =u.heap[b]?)->af w0 M w z B y A->(∀b,B b->t b\/Fy b)->U F Fy->GT.cells y A=GT.cells f l->(∀b,t b->z b)->
      ∃A,af w0 M w z (Or F B) (h.H.set m (r y)) (((q.2 0).H.1,A):ak ay)/\∀j,GT.cells (el (h.H.set m (r y)) j) (A j)=GT.cells (el h.H j) ((q.2 0).H.2 j)):
    ∃t:ah,af w0 M u N t f l/\(∀b,t b->F b)/\∀(w:World) (z:ah) (y:List d) (A:Nat->GT.Ptr d) (B Fy:ah),(∀b,N b->¬t b->z b/\w.heap[b]? =u.heap[b]?)->af w0 M w z B y ((l.1,A):ak d)->(∀b,B b->t b\/Fy b)->U F Fy->y.length=f.length->(∀b,N b->z b)->
      ∃C:Nat->a1,af w0 M w z (Or F B) [{h with H:=h.H.set m (r y)}] ((q.1,C):ak aa)/\(C 0).H.1=(q.2 0).H.1:=by
  obtain⟨D,G,H,I⟩:=ED o;obtain⟨t,h1,ab,aq⟩:=aF D G;refine⟨t,h1,fun b hb=>H b (ab b hb),fun w z y A B Fy D K L O P Q=>?_⟩;obtain⟨R,T,_⟩:=aq w z y (l.1,A) B Fy D K L (fun b x W=>O b (H b x) W) (by show [J _ _]=[J _ _];rw [P]) (fun b hb=>Q b (G.sub b (ab b hb)));obtain⟨C,A,B⟩:=I w z _ R _ Fy (fun b hb bc=>D b hb fun I=>bc (ab b I)) T (fun b hb=>hb.elim .inl fun hb=>(L b hb).imp (ab b) id) O (List.length_set) (fun b hb=>Q b (G.sub b hb));exact⟨C,⟨GT.c5 A.own (Nat.le_refl _) (fun b hb=>hb.elim .inl fun hb=>hb.imp (H b) id),fun b hb=>hb.elim (fun hb=>A.sub b (.inl hb)) (fun hb=>A.sub b (.inr (.inr hb))),fun b hb=>hb.elim (fun hb=>A.I1 b (.inl hb)) (fun hb=>A.I1 b (.inr (.inr hb)))⟩,B⟩
def vs {α:Type} [GT α] (jJ F:ah) (w:World) (r:α) (k:Int) (c:Bool) (e:Ending) (w':World):Prop:=
  ∃q e1,e= .returned (.tuple #[GT.val r q,O k,B c])/\aW jJ w w'/\GT.own a2 e1 w' r q/\au k/\∀b,e1 b->F b\/(w.heap.size<=b/\b<w'.heap.size)
section
variable {P:Program} {n:Nat} {β:Nat->Nat} {σ:aX} {a:Act} {w:World} {ops:Array Oper} {Q:Exit->Act->World->Prop} {b1:Act->World->Prop}
theorem ag.Kz {α l:Type} [GT α] [GT l] {F:ah} {x:α} {p:GT.Ptr α} (S:ag P n w0 M u N β σ a w) (o:af w0 M u N F x p) {i:Nat} {f:FuncId} {t:List Value} {d:Tmp} {r y:l} {k:Int} {c:Bool} (hY:y=r) (hc:Calls P f t.toArray w (vs F F w r k c))
    (K:∀A C D q G,ag P n w0 M C D β ⟨(d,.v (.tuple #[GT.val y q,O k,B c]))::σ.env,σ.aN⟩ A C->(∀b,N b->¬F b->D b/\C.heap[b]? =u.heap[b]?)->af w0 M C D G y q->(∀H:ah,U H F->(∀b,H b->N b)->U H G)->au k->b1 A C)
    (hcall:ep P n ops i σ=some (f,t,d):=by kernel_rfl) (hd:Nat.blt d n=true:=by kernel_rfl):wpOp P ops Q i b1 a w:=by
  subst hY;exact S.call hcall hc fun _ C ⟨q,G,he,A,D,hk,aF⟩=>⟨_,he,K _ C _ q G ((S.JC A o.sub o.I1).put (j3 hd) (fun _ _ e=>by cases e)) (S.IL A)
    ⟨D,fun b h=>(aF b h).elim (fun h=> .inl (o.sub b h)) .inr,fun b h=>(aF b h).elim (o.I1 b) (fun h=> .inl (Nat.le_trans S.I7.size h.1))⟩
    (fun H A C b h1 ab=>(aF b ab).elim (A b h1) (fun h=>by have:=(S.sep b (C b h1)).1;omega)) hk⟩
end
theorem af.Jh {α:Type} [GT α] {xs:List α} {p:ak α} {F:ah} (o:af w0 M u N F xs p) {a b:Nat} (d:a<=b) (hb:b<=xs.length):af w0 M u N F ((xs.drop a).take (b-a)) ((p.1.Jh a (GT.width α),fun i=>p.2 (a+i)):ak α):=by
  refine⟨?_,o.sub,o.I1⟩;have h:dS a2 F u xs p:=o.own;have A:((xs.drop a).take (b-a)).length=b-a:=by simp;omega
  have B:∀i,i<b-a->el ((xs.drop a).take (b-a)) i=el xs (a+i):=fun i C=>by
    unfold el;rw [List.getD_eq_getElem?_getD,List.getD_eq_getElem?_getD,List.getElem?_take_of_lt C,List.getElem?_drop]
  have D:=h.cap;obtain⟨D,G,H,I⟩:=h.el;show dS a2 F u _ _;refine⟨by have:=h.le;omega,by show _<=p.1.cap-a;omega,by show p.1.cap-a<=_;have:=h.JD;omega,fun J=>by show p.1.cap-a=0;have:=h.null J;omega,fun J=>?_,fun i C=>?_,fun i=>D (a+i),fun i C=>?_,fun i C c hc=>?_,fun i j C D K=>?_⟩
  · obtain⟨K,L,O,P,Q⟩:=h.row J;refine⟨K,L,O,P,?_⟩;show(bif p.1.cap==a then p.1.off else p.1.off+a*GT.width α)+(p.1.cap-a)*GT.width α<=L.size;have Q:p.1.cap*GT.width α=a*GT.width α+(p.1.cap-a)*GT.width α:=by rw [←Nat.add_mul];congr 1;omega
    cases p.1.cap==a
    · simp only [cond_false];omega
    · simp only [cond_true];omega
  · rw [A] at C;rw [B i C];have J:(p.1.cap==a)=false:=by simp;omega
    have:=h.cell (a+i) V;show fR u p.1.b ((bif p.1.cap==a then p.1.off else p.1.off+a*GT.width α)+i*GT.width α) _;rw [J];simp only [cond_false];rw [Nat.add_assoc,←Nat.add_mul];exact this
  · rw [A] at C;rw [B i C];exact G (a+i) V
  · rw [A] at C;exact H (a+i) V c hc
  · rw [A] at C D;exact I (a+i) (a+j) V V V
end
theorem nt {d xs:List ay} {k:Nat} {y:List aw} (h:d=xs.set k {el xs k with ad:=y}) (hk:k<xs.length) (hy:y.length=(el xs k).ad.length):(d.length=xs.length/\(el d k).ad.length=(el xs k).ad.length/\(el d k).out.length=(el xs k).out.length/\(el d k).IK.length=(el xs k).IK.length/\(el d k).L.length=(el xs k).L.length/\(el d k).ID.length=(el xs k).ID.length/\(el d k).Iz.length=(el xs k).Iz.length)/\el d k={el xs k with ad:=y}:=by
  subst h;rw [b4 hk];exact⟨⟨List.length_set,hy,rfl,rfl,rfl,rfl,rfl⟩,rfl⟩
theorem rJ {d xs:List ay} {k:Nat} {y:List (List Int)} (h:d=xs.set k {el xs k with out:=y}) (hk:k<xs.length) (hy:y.length=(el xs k).out.length):(d.length=xs.length/\(el d k).ad.length=(el xs k).ad.length/\(el d k).out.length=(el xs k).out.length/\(el d k).IK.length=(el xs k).IK.length/\(el d k).L.length=(el xs k).L.length/\(el d k).ID.length=(el xs k).ID.length/\(el d k).Iz.length=(el xs k).Iz.length)/\el d k={el xs k with out:=y}:=by
  subst h;rw [b4 hk];exact⟨⟨List.length_set,rfl,hy,rfl,rfl,rfl,rfl⟩,rfl⟩
theorem j_ {d xs:List ay} {k:Nat} {y:List Bool} (h:d=xs.set k {el xs k with IK:=y}) (hk:k<xs.length) (hy:y.length=(el xs k).IK.length):(d.length=xs.length/\(el d k).ad.length=(el xs k).ad.length/\(el d k).out.length=(el xs k).out.length/\(el d k).IK.length=(el xs k).IK.length/\(el d k).L.length=(el xs k).L.length/\(el d k).ID.length=(el xs k).ID.length/\(el d k).Iz.length=(el xs k).Iz.length)/\el d k={el xs k with IK:=y}:=by
  subst h;rw [b4 hk];exact⟨⟨List.length_set,rfl,rfl,hy,rfl,rfl,rfl⟩,rfl⟩
theorem lz {d xs:List ay} {k:Nat} {y:List a6} (h:d=xs.set k {el xs k with Iz:=y}) (hk:k<xs.length) (hy:y.length=(el xs k).Iz.length):(d.length=xs.length/\(el d k).ad.length=(el xs k).ad.length/\(el d k).out.length=(el xs k).out.length/\(el d k).IK.length=(el xs k).IK.length/\(el d k).L.length=(el xs k).L.length/\(el d k).ID.length=(el xs k).ID.length/\(el d k).Iz.length=(el xs k).Iz.length)/\el d k={el xs k with Iz:=y}:=by
  subst h;rw [b4 hk];exact⟨⟨List.length_set,rfl,rfl,rfl,rfl,rfl,hy⟩,rfl⟩
theorem ns {α:Type} [GT α] {xs:List α} {k:Nat}:xs.set k (el xs k)=xs:=by
  by_cases h:k<xs.length
  · rw [hK h];exact List.set_getElem_self h
  · exact List.set_eq_of_length_le V
end Go.Proofs.YtkggcdhigchepaaGreat
namespace Go.Proofs.YtkggcdhigchepaaGreat
open Go
set_option linter.unusedVariables false
set_option linter.unusedSimpArgs false
inductive Fr where
  |seq (y:Code)
  |kp (id:Nat)
  |fb (f:Act->World->Prop)
def gx (P:Program) (Q:Exit->Act->World->Prop):List Fr->Exit->Act->World->Prop
  |[]=>Q
  | .seq y::r=>Exit.then (y.wp P (gx P Q r)) (gx P Q r)
  | .kp id::r=>Exit.inBlock id (gx P Q r)
  | .fb f::r=>Exit.then f (gx P Q r)
inductive cx where
  |code (c:Code) (ks:List Fr)
  |ops (ops:Array Oper) (i:Nat) (ks:List Fr)
  |ex (e:Exit) (ks:List Fr)
def cx.wp (P:Program) (Q:Exit->Act->World->Prop):cx->Act->World->Prop
  | .code c ks=>c.wp P (gx P Q ks)
  | .ops o i ks=>e3 P o (gx P Q ks) i
  | .ex e ks=>gx P Q ks e
structure bL where
  aQ:cx
  σ:aX
  asks:List Ask
def eD (P:Program) (n:Nat):Nat->cx->aX->List Value->bL
  |
    0,aQ,σ,_=>⟨aQ,σ,[]⟩
  |k+1,.code c ks,σ,cU=>
    match c with
    | .skip=>eD P n k (.ex .normal ks) σ cU
    | .seq x y=>eD P n k (.code x (.seq y::ks)) σ cU
    | .block id x=>eD P n k (.code x (.kp id::ks)) σ cU
    | .exit id=>eD P n k (.ex (.exit id) ks) σ cU
    | .ret=>⟨.ex .ret [],σ,[]⟩
    | .cond c x y=>
      match σ.get c with
      |some (.v (.bool b))=>eD P n k (.code (bif b then x else y) ks) σ cU
      |_=>⟨.code (.cond c x y) ks,σ,[]⟩
    | .region _ ops false=>eD P n k (.ops ops 0 ks) σ cU
    | .region id ops true=>
      bif P.follows .mixedOrders&&Region.lexB .any ops then
        match fU P n ops ops.toList σ cU with
        |some (σ',l)=>
          let r:=eD P n k (.ex .normal ks) σ' (cU.drop l.length)
          ⟨r.aQ,r.σ,l.map (·.1)++r.asks⟩
        |none=>⟨.code (.region id ops true) ks,σ,[]⟩
      else⟨.code (.region id ops true) ks,σ,[]⟩
    |c=>⟨.code c ks,σ,[]⟩
  |k+1,.ops ops i ks,σ,cU=>
    match ops.toList[i]? with
    |none=>eD P n k (.ex .normal ks) σ cU
    |some o=>
      match dD P n ops [o] σ (cU.take 1) with
      |none=>⟨.ops ops i ks,σ,[]⟩
      |some (σ',[])=>eD P n k (.ops ops (i+1) ks) σ' cU
      |some (σ',(q,_)::_)=>
        let r:=eD P n k (.ops ops (i+1) ks) σ' (cU.drop 1)
        ⟨r.aQ,r.σ,q::r.asks⟩
  |k+1,.ex .normal ks,σ,cU=>
    match ks with
    | .seq y::r=>eD P n k (.code y r) σ cU
    | .kp _::r=>eD P n k (.ex .normal r) σ cU
    |ks=>⟨.ex .normal ks,σ,[]⟩
  |k+1,.ex (.exit id) ks,σ,cU=>
    match ks with
    | .seq _::r=>eD P n k (.ex (.exit id) r) σ cU
    | .fb _::r=>eD P n k (.ex (.exit id) r) σ cU
    | .kp EY::r=>bif Nat.beq id EY then eD P n k (.ex .normal r) σ cU else eD P n k (.ex (.exit id) r) σ cU
    |[]=>⟨.ex (.exit id) [],σ,[]⟩
  |_+1,.ex .ret _,σ,_=>⟨.ex .ret [],σ,[]⟩
  |_+1,.ex e ks,σ,_=>⟨.ex e ks,σ,[]⟩
section
variable {P:Program} {n:Nat} {w0:World} {M:ah} {u:World} {N:ah} {β:Nat->Nat} {σ:aX} {a:Act} {w:World} {Q:Exit->Act->World->Prop} {aQ:cx}
theorem xn {ops:Array Oper} {i:Nat} {o:Oper} {σ':aX} {claims:List (Ask×Value)} {ks:List Fr} (d:ops.toList[i]? =some o) (f:dD P n ops [o] σ (claims.map (·.2))=some (σ',claims)) (l:cm P u N claims) (S:ag P n w0 M u N β σ a w)
    (K:∀q r β',ag P n w0 M u N β' σ' q r->cx.wp P Q (.ops ops (i+1) ks) q r):cx.wp P Q (.ops ops i ks) a w:=by
  have t:ops[i]? =some o:=by simpa using d
  have A:i<ops.size:=(Array.getElem?_eq_some_iff.1 t).1;have A:=sU (P:=P) (n:=n) (w0:=w0) (M:=M) (u:=u) (N:=N) (ops:=ops) (Q:=gx P Q ks) σ' (List.range' (i+1) (ops.size-(i+1))) [o] i σ a w β claims
    (fun B C D=>by
      cases B with
      |zero=>simp at D;subst D;simpa using t
      |succ B=>simp at D) f l S (fun q r β' B=>K q r β' B)
  show e3 P ops (gx P Q ks) i a w;unfold e3;rw [show ops.size-i=1+(ops.size-(i+1)) by omega,←List.range'_append_1];exact A
theorem D9 {ops:Array Oper} {o:Oper} {σ':aX} {l:List (Ask×Value)} {claims:List (Ask×Value)} {q:Ask} {v:Value} (h:dD P n ops [o] σ (((q,v)::claims).map (·.2) |>.take 1)=some (σ',l)) {f:Ask} {x:Value} {r:List (Ask×Value)} (e:l=(f,x)::r):l=[(f,v)]:=by
  subst e;simp only [List.map_cons,List.take_succ_cons,List.take_zero,dD] at h;split at h
  · cases h
  · cases aY:σ.put n o.dst (.v undef) with
    |none=>rw [aY] at h;cases h
    |some d=>rw [aY] at h;simp at h
  · split at h
    · cases h
    · rename_i t hx;cases aY:σ.put n o.dst t with
      |none=>rw [aY] at h;cases h
      |some d=>rw [aY] at h;simp at h
    · rename_i z hx;cases aY:σ.put n o.dst (.v v) with
      |
        none=>rw [aY] at h;cases h
      |some d=>
        rw [aY] at h;simp only [Option.bind_some,Option.map_some,Option.some.injEq,Prod.mk.injEq,List.cons.injEq] at h;obtain⟨_,⟨h1,ab⟩,aq⟩:=h;rw [←ab,←aq]
    · rename_i A y hx;cases aY:aX.put n ⟨σ.env,σ.aN++[y]⟩ o.dst (.p σ.aN.length 0) with
      |none=>rw [aY] at h;cases h
      |some d=>rw [aY] at h;simp at h
    · split at h
      · simp at h
      · cases h
theorem Ea {ops:Array Oper} {o:Oper} {σ':aX} {d:List Value} (h:dD P n ops [o] σ d=some (σ',[])):dD P n ops [o] σ []=some (σ',[]):=by
  simp only [dD] at h ⊢;split at h
  · cases h
  · assumption
  · split at h
    · cases h
    · exact h
    · cases d with
      |
        nil=>cases h
      |cons v r=>
        simp only at h;cases aY:σ.put n o.dst (.v v) with
        |none=>rw [aY] at h;cases h
        |some A=>rw [aY] at h;simp at h
    · assumption
    · split at h
      · assumption
      · cases h
theorem D_ {ops:Array Oper} {o:Oper} {σ':aX} {l:List (Ask×Value)} (h:dD P n ops [o] σ []=some (σ',l)):l=[]:=by
  simp only [dD] at h;split at h
  · cases h
  · cases aY:σ.put n o.dst (.v undef) with
    |none=>rw [aY] at h;cases h
    |some d=>rw [aY] at h;simp at h;exact h.2
  · split at h
    · cases h
    · rename_i f hx;cases aY:σ.put n o.dst f with
      |none=>rw [aY] at h;cases h
      |some d=>rw [aY] at h;simp at h;exact h.2
    · cases h
    · rename_i r q hx;cases aY:aX.put n ⟨σ.env,σ.aN++[q]⟩ o.dst (.p σ.aN.length 0) with
      |none=>rw [aY] at h;cases h
      |some d=>rw [aY] at h;simp at h;exact h.2
    · split at h
      · simp at h;exact h.2
      · cases h
theorem oB:∀ks:List Fr,gx P Q ks .ret a w=Q .ret a w
  |[]=>rfl
  | .seq _::r=>oB r
  | .kp _::r=>oB r
  | .fb _::r=>oB r
theorem xl {ops:Array Oper} {σ':aX}:∀(l:List Oper) (σ:aX) (d:List Value) (r:List (Ask×Value)),fU P n ops l σ d=some (σ',r)->r.map (·.2)=d.take r.length/\fU P n ops l σ (r.map (·.2))=some (σ',r)
  |
    [],σ,d,r,h=>by
    simp only [fU,Option.some.injEq,Prod.mk.injEq] at h;obtain⟨rfl,rfl⟩:=h;exact⟨rfl,rfl⟩
  |o::l,σ,d,r,h=>by
    have q:=xl (ops:=ops) (σ':=σ') l;simp only [fU] at h ⊢;split at h
    · cases h
    · cases aY:σ.put n o.dst (.v undef) with
      |none=>rw [aY] at h;cases h
      |some f=>rw [aY] at h;simp only [Option.bind_some] at h ⊢;exact q f d r h
    · split at h
      · rename_i aA x hx;cases aY:σ.put n o.dst x with
        |none=>rw [aY] at h;cases h
        |some f=>rw [aY] at h;simp only [Option.bind_some,hx,aY] at h ⊢;exact q f d r h
      · rename_i aA t hx;cases d with
        |
          nil=>cases h
        |cons v d=>
          simp only at h;cases aY:σ.put n o.dst (.v v) with
          |none=>rw [aY] at h;cases h
          |some f=>
            rw [aY] at h;simp only [Option.bind_some] at h;cases aU:fU P n ops l f d with
            |none=>rw [aU] at h;cases h
            |some r'=>
              rw [aU] at h;simp only [Option.map_some,Option.some.injEq,Prod.mk.injEq] at h;obtain⟨h1,ab⟩:=h;subst ab;have:=q f d r'.2 (by rw [aU,←h1]);refine⟨by simp [this.1],?_⟩;simp only [List.map_cons,hx,aY,Option.bind_some,this.2,Option.map_some]
      · cases h
theorem zR {α β:Type}:∀{l m:List (α×β)},l.map (·.1)=m.map (·.1)->l.map (·.2)=m.map (·.2)->l=m
  |
    [],[],_,_=>rfl
  |[],_::_,h,_=>by simp at h
  |_::_,[],h,_=>by simp at h
  |(a,b)::l,(c,d)::m,h,f=>by
    simp only [List.map_cons,List.cons.injEq] at h f;rw [h.1,f.1,zR h.2 f.2]
theorem cm.parts {l m:List (Ask×Value)} (h:cm P u N (l++m)):cm P u N l/\cm P u N m:=by
  induction l with
  |nil=>exact⟨trivial,h⟩
  |cons c l d=>exact⟨⟨h.1,(d h.2).1⟩,(d h.2).2⟩
theorem ag.JP (S:ag P n w0 M u N β σ a w) {id:Nat} {ops:Array Oper} {σ':aX} {claims:List (Ask×Value)} (d:cm P u N claims)
    (hm:P.follows .mixedOrders=true) (f:Region.lexB .any ops=true)
    (l:fU P n ops ops.toList σ (claims.map (·.2))=some (σ',claims)) (K:∀o q,ag P n w0 M u N β σ' o q->Q .normal o q):(Code.region id ops true).wp P Q a w:=by
  have r:ag P n w0 M u N β σ a {w with drawn:=w.drawn+1}:=S.ext (aW.draw I w _);refine wp_region_quiet (C:=fun q=>aW I {w with drawn:=w.drawn+1} q) hm f (aW.refl _ _) ?_;exact sT _ σ' _ ops.toList σ a claims l d r fun o t q y=>K o q (t.ext y)
theorem gf:∀(k:Nat) (aQ:cx) (σ:aX) (claims:List (Ask×Value)) (a:Act) (w:World) (β:Nat->Nat),
    (eD P n k aQ σ (claims.map (·.2))).asks=claims.map (·.1)->cm P u N claims->ag P n w0 M u N β σ a w->
    (∀l q β',ag P n w0 M u N β' (eD P n k aQ σ (claims.map (·.2))).σ l q->cx.wp P Q (eD P n k aQ σ (claims.map (·.2))).aQ l q)->cx.wp P Q aQ a w
  |
    0,aQ,σ,claims,a,w,β,_,_,S,K=>K a w β S
  |k+1,.code c ks,σ,claims,a,w,β,h,t,S,K=>by
    cases c with
    |skip=>exact wp_skip (gf k (.ex .normal ks) σ claims a w β h t S K)
    |seq x y=>exact wp_seq (gf k (.code x (.seq y::ks)) σ claims a w β h t S K)
    |block id x=>exact wp_block (gf k (.code x (.kp id::ks)) σ claims a w β h t S K)
    |exit id=>exact wp_exit (gf k (.ex (.exit id) ks) σ claims a w β h t S K)
    |ret=>exact wp_ret (show gx P Q ks .ret a w by rw [oB];exact K a w β S)
    |cond c x y=>
      cases hc:σ.get c with
      |none=>simp only [eD,hc] at K;exact K a w β S
      |some s=>
        cases s with
        |p k o=>simp only [eD,hc] at K;exact K a w β S
        |v z=>
          cases z with
          |bool b=>
            simp only [eD,hc] at h K;refine S.cond hc (fun e=>?_) (fun e=>?_)<;>subst e
            · exact gf k (.code x ks) σ claims a w β h t S K
            · exact gf k (.code y ks) σ claims a w β h t S K
          |_=>simp only [eD,hc] at K;exact K a w β S
    |region id ops d=>
      cases d with
      |false=>exact e3.start (gf k (.ops ops 0 ks) σ claims a w β h t S K)
      |true=>
        simp only [eD] at h K;cases hb:(P.follows .mixedOrders&&Region.lexB .any ops) with
        |false=>simp only [hb,cond_false] at K;exact K a w β S
        |true=>
          simp only [hb,cond_true] at h K;simp only [Bool.and_eq_true] at hb;cases he:fU P n ops ops.toList σ (claims.map (·.2)) with
          |none=>simp only [he] at K;exact K a w β S
          |some r=>
            obtain⟨σ',A⟩:=r;simp only [he] at h K;obtain⟨h1,ab⟩:=xl _ _ _ _ he;have B:A=claims.take A.length:=by
              refine zR ?_ ?_
              · have:=congrArg (List.take A.length) h;rw [List.take_left' aM] at this;rw [this,List.map_take]
              · rw [h1,List.map_take]
            have hc:claims=A++claims.drop A.length:=by
              conv=>lhs;rw [←List.take_append_drop A.length claims]
              rw [←B]
            generalize claims.drop A.length=C at hc;subst hc;have D:(List.map (fun x=>x.2) (A++C)).drop A.length=C.map (·.2):=by
              rw [List.map_append,List.drop_left' aM]
            rw [D] at h K;rw [List.map_append] at h;have F:=List.append_cancel_left h;have D:=t.parts;exact S.JP D.1 hb.1 hb.2 ab (fun l q G=>gf k (.ex .normal ks) σ' C l q β F D.2 G K)
    |_=>exact K a w β S
  |k+1,.ops ops i ks,σ,claims,a,w,β,h,t,S,K=>by
    simp only [eD] at h K;cases D:ops.toList[i]? with
    |none=>
      simp only [D] at h K;have F:ops.size<=i:=by
        have:=List.getElem?_eq_none_iff.1 D
        simpa using this
      refine e3.done (Nat.ble_eq_true_of_le F) ?_;exact gf k (.ex .normal ks) σ claims a w β h t S K
    |some o=>
      simp only [D] at h K;cases he:dD P n ops [o] σ ((claims.map (·.2)).take 1) with
      |none=>simp only [he] at K;exact K a w β S
      |some r=>
        obtain⟨σ',A⟩:=r;simp only [he] at h K;cases A with
        |nil=>
          simp only at h K;exact xn (claims:=[]) D (Ea he) .nil S (fun l q β' G=>gf k _ σ' claims l q β' h t G K)
        |cons c A=>
          obtain⟨A,x⟩:=c;simp only at h K;cases claims with
          |nil=>exact absurd (D_ he) aM
          |cons c C=>
            obtain⟨F,v⟩:=c;have B:=D9 he rfl;rw [B] at he;simp only [List.map_cons,List.drop_succ_cons,List.drop_zero,List.cons.injEq] at h K;obtain⟨h1,ab⟩:=h;subst h1;exact xn (claims:=[(A,v)]) D he ⟨t.1,trivial⟩ S (fun l q β' G=>gf k _ σ' C l q β' ab t.2 G K)
  |k+1,.ex e ks,σ,claims,a,w,β,h,t,S,K=>by
    cases e with
    |normal=>
      cases ks with
      |nil=>exact K a w β S
      |cons f r=>
        cases f with
        |seq y=>exact gf k (.code y r) σ claims a w β h t S K
        |kp id=>exact gf k (.ex .normal r) σ claims a w β h t S K
        |fb f=>exact K a w β S
    |exit id=>
      cases ks with
      |nil=>exact K a w β S
      |cons f r=>
        cases f with
        |seq y=>exact gf k (.ex (.exit id) r) σ claims a w β h t S K
        |fb f=>exact gf k (.ex (.exit id) r) σ claims a w β h t S K
        |kp A=>
          simp only [eD] at h K;show(if id=A then gx P Q r .normal a w else gx P Q r (.exit id) a w);cases hb:Nat.beq id A with
          |true=>
            simp only [hb,cond_true] at h K;rw [if_pos (Nat.eq_of_beq_eq_true hb)];exact gf k (.ex .normal r) σ claims a w β h t S K
          |false=>
            simp only [hb,cond_false] at h K;rw [if_neg (fun e=>by subst e;simp at hb)];exact gf k (.ex (.exit id) r) σ claims a w β h t S K
    |ret=>
      show gx P Q ks .ret a w;rw [oB];exact K a w β S
    |_=>exact K a w β S
def bL.go (P:Program) (n k:Nat) (eT:List Value) (r:bL):bL:=eD P n k r.aQ r.σ eT
structure bU (P:Program) (Q:Exit->Act->World->Prop) (r:bL) (a:Act) (w:World):Prop where
  ok:cx.wp P Q r.aQ a w
def cx.ks:cx->List Fr
  | .ops _ _ k=>k
  | .code _ k=>k
  | .ex _ k=>k
structure iZ (P:Program) (Q:Exit->Act->World->Prop) (r:bL) (e:Exit) (a:Act) (w:World):Prop where
  ok:gx P Q r.aQ.ks e a w
theorem ag.go {r:bL} (S:ag P n w0 M u N β r.σ a w) (k:Nat) {claims:List (Ask×Value)} (d:cm P u N claims)
    (K:∀f l β',ag P n w0 M u N β' (r.go P n k (claims.map (·.2))).σ f l->bU P Q (r.go P n k (claims.map (·.2))) f l)
    (h:(r.go P n k (claims.map (·.2))).asks=claims.map (·.1):=by kernel_rfl):bU P Q r a w:=⟨gf k r.aQ r.σ claims a w β h d S fun f l β' o=>(K f l β' o).ok⟩
def cx.KM:cx->Option Tmp
  | .code (.cond (.tmp t) _ _) _=>some t
  | .ops l i _=>match l.toList[i]? with
    |
      some o=>match o.guard with
      |
        some (j,_)=>(l.toList[j]?).bind (·.dst)
      |none=>match o.op with
        | .pick (.tmp t) _ _=>some t
        |_=>none
    |none=>none
  |_=>none
def bL.Ka (r:bL):Option Bool:=
  match r.aQ.KM with
  |some t=>match look r.σ.env t with
    |some (.v (.bool e))=>some e
    |_=>none
  |none=>none
def aX.lit (σ:aX) (t:Option Tmp) (b:Bool):aX:=
  match t with
  |some t=>⟨(t,.v (.bool b))::σ.env,σ.aN⟩
  |none=>σ
def bL.lit (r:bL) (b:Bool):bL:=⟨r.aQ,r.σ.lit r.aQ.KM b,[]⟩
def bL.lt (r:bL) (t:Tmp) (b:Bool):bL:=⟨r.aQ,r.σ.lit (some t) b,[]⟩
theorem ag.lit (S:ag P n w0 M u N β σ a w) (t:Tmp) {e b:Bool} (h:e=b) (he:look σ.env t=some (.v (.bool e)):=by kernel_rfl):ag P n w0 M u N β (σ.lit (some t) b) a w:=by
  subst h;refine⟨S.Jt,S.ao,fun f s d=>?_,fun f k l d=>?_,S.box,S.inj,S.new,S.sep,S.I7,S.fZ⟩
  · simp only [aX.lit,iw] at d;split at d
    · rename_i o;subst o;simp at d;subst d;exact S.env _ _ he
    · exact S.env f s d
  · simp only [aX.lit,iw] at d;split at d
    · cases d
    · exact S.ok f k l d
theorem ag.lt {r:bL} (S:ag P n w0 M u N β r.σ a w) (t:Tmp) {e b:Bool} (h:e=b) (K:ag P n w0 M u N β (r.lt t b).σ a w->bU P Q (r.lt t b) a w) (he:look r.σ.env t=some (.v (.bool e)):=by kernel_rfl):bU P Q r a w:=⟨(K (S.lit t h he)).ok⟩
theorem ag.IW {r:bL} (S:ag P n w0 M u N β r.σ a w) (k:Nat) {claims:List (Ask×Value)} (z:cm P u N claims) (e:Bool)
    (q:∀d f β',e=true->ag P n w0 M u N β' ((r.go P n k (claims.map (·.2))).lit true).σ d f->bU P Q ((r.go P n k (claims.map (·.2))).lit true) d f)
    (aF:∀d f β',e=false->ag P n w0 M u N β' ((r.go P n k (claims.map (·.2))).lit false).σ d f->bU P Q ((r.go P n k (claims.map (·.2))).lit false) d f)
    (h:(r.go P n k (claims.map (·.2))).asks=claims.map (·.1):=by kernel_rfl) (l:(r.go P n k (claims.map (·.2))).Ka=some e:=by kernel_rfl):bU P Q r a w:=
  S.go k z (fun d f β' t=>by
    generalize r.go P n k (claims.map (·.2))=r' at*;unfold bL.Ka at l;split at l
    · rename_i o h1;split at l
      · rename_i A ab;simp at l;subst l;have y:∀b,r'.lit b=⟨r'.aQ,r'.σ.lit (some o) b,[]⟩:=fun b=>by unfold bL.lit;rw [h1]
        cases A with
        |true=>rw [y] at q;exact⟨(q d f β' rfl (t.lit o rfl ab)).ok⟩
        |false=>rw [y] at aF;exact⟨(aF d f β' rfl (t.lit o rfl ab)).ok⟩
      · cases l
    · cases l) h
class mi (e:Bool) (T F:outParam Prop):Prop where
  t:e=true->T
  f:e=false->F
instance (p:Prop) [Decidable p]:mi (decide p) p (¬p):=⟨of_decide_eq_true,of_decide_eq_false⟩
instance {α:Type} [BEq α] [LawfulBEq α] (x y:α):mi (x==y) (x=y) (¬x=y):=⟨eq_of_beq,ne_of_beq_false⟩
instance {α:Type} [BEq α] [LawfulBEq α] (x y:α):mi (x != y) (¬x=y) (x=y):=⟨fun h=>bne_iff_ne.1 h,fun h=>by simpa using h⟩
theorem ag.IH {r:bL} (S:ag P n w0 M u N β r.σ a w) (k:Nat) {claims:List (Ask×Value)} (d:cm P u N claims) (e:Bool) {f F:Prop} [mi e f F]
    (l:∀o q β',e=true->f->ag P n w0 M u N β' ((r.go P n k (claims.map (·.2))).lit true).σ o q->bU P Q ((r.go P n k (claims.map (·.2))).lit true) o q)
    (aF:∀o q β',e=false->F->ag P n w0 M u N β' ((r.go P n k (claims.map (·.2))).lit false).σ o q->bU P Q ((r.go P n k (claims.map (·.2))).lit false) o q)
    (h:(r.go P n k (claims.map (·.2))).asks=claims.map (·.1):=by kernel_rfl) (A:(r.go P n k (claims.map (·.2))).Ka=some e:=by kernel_rfl):bU P Q r a w:=
  S.IW k d e (fun o q β' h=>l o q β' h (mi.t h)) (fun o q β' h=>aF o q β' h (mi.f h)) h A
def cx.J9:cx->Bool
  | .ex .ret []=>true
  | .ex .normal []=>true
  |_=>false
theorem A5 {aQ:cx} (h:aQ.J9=true) {d:Func} {R:Ending->World->Prop} (h1:bodyPost P d R .ret a w) (ab:bodyPost P d R .normal a w):cx.wp P (bodyPost P d R) aQ a w:=by
  unfold cx.J9 at h;split at h
  · exact h1
  · exact ab
  · cases h
theorem ag.IG {r:bL} (S:ag P n w0 M u N β r.σ a w) (k:Nat) {claims:List (Ask×Value)} (d:cm P u N claims) {f:Func} {R:Ending->World->Prop} (l:List Value)
    (K:∀o q β',ag P n w0 M u N β' (r.go P n k (claims.map (·.2))).σ o q->R (.returned (packed l)) q)
    (h:(r.go P n k (claims.map (·.2))).asks=claims.map (·.1):=by kernel_rfl) (aU:(r.go P n k (claims.map (·.2))).aQ.J9=true:=by kernel_rfl)
    (t:iD P (r.go P n k (claims.map (·.2))).σ f.results.toList=some l:=by kernel_rfl):bU P (bodyPost P f R) r a w:=
  S.go k d (fun o q β' A=>⟨A5 aU (A.ret t (K o q β' A)) (A.KC t (K o q β' A))⟩) h
theorem ag.IE {d:Ending} {r:bL} (S:ag P n w0 M u N β r.σ a w) (k:Nat) {claims:List (Ask×Value)} (f:cm P u N claims) (l:List Value) {o:Func} (e:Ending.returned (packed l)=d)
    (h:(r.go P n k (claims.map (·.2))).asks=claims.map (·.1):=by kernel_rfl) (aU:(r.go P n k (claims.map (·.2))).aQ.J9=true:=by kernel_rfl)
    (q:iD P (r.go P n k (claims.map (·.2))).σ o.results.toList=some l:=by kernel_rfl):bU P (bodyPost P o (fun e t=>e=d/\aW M w0 t)) r a w:=
  S.IG k f l (fun A t β' B=>⟨e,B.I7⟩) h aU q
def cx.start (fn:Func):cx:= .code (fn.body.getD .skip) []
def bL.start (fn:Func) (args:List Value):bL:=⟨.start fn,⟨ml 0 args,[]⟩,[]⟩
theorem Calls.run {f:FuncId} {d:Func} {l:List Value} {R:Ending->World->Prop} (M:ah) (aF:P.funcs[f]? =some d)
    (h:∀a β,ag P d.ntmps w M w (cp w.heap.size) β (bL.start d l).σ a w->bU P (bodyPost P d R) (bL.start d l) a w)
    (hb:d.body.isSome=true:=by kernel_rfl) (bc:Nat.ble l.length d.ntmps=true:=by kernel_rfl):Calls P f l.toArray w R:=by
  cases e:d.body with
  |none=>rw [e] at hb;cases hb
  |some c=>
    refine Calls.walk M aF e bc fun a β S=>?_;have:=(h a β S).ok;simp only [bL.start,cx.start,e,Option.getD_some] at this;exact this
def cx.opsOf:cx->Array Oper
  | .ops o _ _=>o
  | .code (.region _ o _) _=>o
  |_=>#[]
def cx.idx:cx->Nat
  | .ops _ i _=>i
  |_=>0
def cx.Jk:cx->Bool
  | .ops o i _=>Nat.blt i o.size
  |_=>false
def cx.Ko:cx->cx
  | .ops o i k=> .ops o (i+1) k
  |aQ=>aQ
def bL.put (r:bL) (d:Tmp) (v:Value):bL:=⟨r.aQ.Ko,⟨(d,.v v)::r.σ.env,r.σ.aN⟩,[]⟩
def bL.Ju (r:bL):bL:=⟨r.aQ.Ko,r.σ,[]⟩
def bL.tell (r:bL) (σ:aX):bL:=⟨r.aQ,σ,[]⟩
def bL.JG (r:bL) (σ:aX):bL:=⟨.ex .normal r.aQ.ks,σ,[]⟩
theorem lo (h:wpOp P aQ.opsOf (gx P Q aQ.ks) aQ.idx (fun d f=>cx.wp P Q aQ.Ko d f) a w) (hb:aQ.Jk=true):cx.wp P Q aQ a w:=by
  cases aQ with
  |ops o i k=>exact e3.op hb h
  |_=>cases hb
abbrev bL.op (P:Program) (Q:Exit->Act->World->Prop) (r:bL) (K:Act->World->Prop) (a:Act) (w:World):Prop:=wpOp P r.aQ.opsOf (gx P Q r.aQ.ks) r.aQ.idx K a w
theorem ag.is (S:ag P n w0 M u N β σ a w) {r:bL} (K:ag P n w0 M u N β (r.tell σ).σ a w->bU P Q (r.tell σ) a w):bU P Q r a w:=⟨(K S).ok⟩
def cx.KF:cx->Bool
  | .code (.loop _) _=>true
  |_=>false
def cx.body:cx->Code
  | .code (.loop c) _=>c
  |_=> .skip
def bL.KJ (r:bL) (f:Act->World->Prop) (σ:aX):bL:=⟨.code r.aQ.body (.fb f::r.aQ.ks),σ,[]⟩
structure vr (P:Program) (Q:Exit->Act->World->Prop) (r:bL) (f:Act->World->Prop) (a:Act) (w:World):Prop where
  ok:cx.wp P Q (.code r.aQ.body (.fb f::r.aQ.ks)) a w
structure AL (Inv:Nat->Act->World->Prop) (m:Nat) (f:Act->World->Prop) where
  of:∀zo a w,zo<m->Inv zo a w->f a w
theorem bJ {r:bL} (d:Nat->Act->World->Prop) (m:Nat) (l:d m a w) (o:∀(f:Act->World->Prop) m,AL d m f->∀a w,d m a w->vr P Q r f a w) (h:r.aQ.KF=true:=by kernel_rfl):bU P Q r a w:=by
  have q:=fun f m aF a w t=>(o f m aF a w t).ok;refine⟨?_⟩;generalize r.aQ=aQ at*;unfold cx.KF at h;split at h
  · exact HO d m l fun m a w t=>q _ m ⟨fun A a w B h=>⟨A,B,h⟩⟩ a w t
  · cases h
theorem ag.rs (S:ag P n w0 M u N β σ a w) {r:bL} {f:Act->World->Prop} (K:ag P n w0 M u N β (r.KJ f σ).σ a w->bU P Q (r.KJ f σ) a w):vr P Q r f a w:=⟨(K S).ok⟩
def cx.Kw:cx->Option (Act->World->Prop)
  | .ex .normal (.fb f::_)=>some f
  |_=>none
theorem ag.ge {r:bL} (S:ag P n w0 M u N β r.σ a w) (k:Nat) {claims:List (Ask×Value)} (d:cm P u N claims) (f:Act->World->Prop)
    (K:∀l o β',ag P n w0 M u N β' (r.go P n k (claims.map (·.2))).σ l o->f l o)
    (h:(r.go P n k (claims.map (·.2))).asks=claims.map (·.1):=by kernel_rfl) (hs:(r.go P n k (claims.map (·.2))).aQ.Kw=some f:=by kernel_rfl):bU P Q r a w:=
  S.go k d (fun l o β' q=>⟨by
    generalize (r.go P n k (claims.map (·.2))).aQ=c at hs;unfold cx.Kw at hs;split at hs
    · simp at hs;subst hs;exact K l o β' q
    · cases hs⟩) h
def cx.KX:cx->Code
  | .code c _=>c
  |_=> .skip
def cx.KE:cx->Bool
  | .code _ _=>true
  |_=>false
def bL.ar (r:bL):bL:=⟨.code r.aQ.KX [],r.σ,[]⟩
theorem er {r:bL} (S:ag P n w0 M u N β r.σ a w) (O:Act->World->Prop) (h:ag P n w0 M u N β r.ar.σ a w->bU P (fs O) r.ar a w) (k:∀a w,O a w->iZ P Q r .normal a w) (hc:r.aQ.KE=true:=by kernel_rfl):bU P Q r a w:=by
  have h:=(h S).ok;have d:=fun a w f=>(k a w f).ok;refine⟨?_⟩;unfold bL.ar at h;simp only at h;generalize r.aQ=aQ at*;cases aQ with
  |code c ks=>exact oC O h d
  |_=>cases hc
theorem ag.Jq {r:bL} (S:ag P n w0 M u N β r.σ a w) (σ':aX) (h:ag P n w0 M u N β r.ar.σ a w->bU P (fs fun a w=>∃β',ag P n w0 M u N β' σ' a w) r.ar a w) (k:∀a w β',ag P n w0 M u N β' (r.JG σ').σ a w->bU P Q (r.JG σ') a w) (hc:r.aQ.KE=true:=by kernel_rfl):bU P Q r a w:=
  er S _ h (fun a w ⟨β',h⟩=>⟨(k a w β' h).ok⟩) hc
def cx.K4:cx->Nat
  | .code (.region id _ _) _=>id
  |_=>0
def cx.JL:cx->Bool
  | .code (.region _ _ true) _=>true
  |_=>false
theorem h_ {r:bL} (h:(Code.region r.aQ.K4 r.aQ.opsOf true).wp P (iZ P Q r) a w) (hc:r.aQ.JL=true:=by kernel_rfl):bU P Q r a w:=by
  have h:=Code.wp_mono (Q':=gx P Q r.aQ.ks) (fun _ _ _ h=>h.ok) h;refine⟨?_⟩;generalize r.aQ=aQ at*;unfold cx.JL at hc;split at hc
  · exact h
  · cases hc
theorem ag.ex (S:ag P n w0 M u N β σ a w) {r:bL} (K:ag P n w0 M u N β (r.JG σ).σ a w->bU P Q (r.JG σ) a w):iZ P Q r .normal a w:=⟨(K S).ok⟩
def cx.atEnd:cx->Bool
  | .ex .normal []=>true
  |_=>false
theorem ag.IZ {r:bL} (S:ag P n w0 M u N β r.σ a w) (k:Nat) {claims:List (Ask×Value)} (d:cm P u N claims)
    (K:∀f l β',ag P n w0 M u N β' (r.go P n k (claims.map (·.2))).σ f l->Q .normal f l)
    (h:(r.go P n k (claims.map (·.2))).asks=claims.map (·.1):=by kernel_rfl) (hs:(r.go P n k (claims.map (·.2))).aQ.atEnd=true:=by kernel_rfl):bU P Q r a w:=
  S.go k d (fun f l β' o=>⟨by
    generalize (r.go P n k (claims.map (·.2))).aQ=c at hs;unfold cx.atEnd at hs;split at hs
    · exact K f l β' o
    · cases hs⟩) h
end
attribute [irreducible] bL.go eD
end Go.Proofs.YtkggcdhigchepaaGreat
namespace Go.Proofs.YtkggcdhigchepaaGreat
open Go
set_option linter.unusedVariables false
section
variable {P:Program} {n:Nat} {w0:World} {M:ah} {u:World} {N:ah} {β:Nat->Nat} {a:Act} {w:World} {Q:Exit->Act->World->Prop}
theorem ag.IP {l:bL} {α:Type} [GT α] {f:FuncId} {o:List Value} {d:Tmp} {r:α} (S:ag P n w0 M u N β l.σ a w) (hc:Calls P f o.toArray w (bO I w r)) (K:∀t y z q F,ag P n w0 M y z β (l.put d (GT.val r q)).σ t y->(∀b,N b->z b/\y.heap[b]? =u.heap[b]?)->af w0 M y z F r q->U N F->bU P Q (l.put d (GT.val r q)) t y) (hcall:ep P n l.aQ.opsOf l.aQ.idx l.σ=some (f,o,d):=by kernel_rfl) (hd:Nat.blt d n=true:=by kernel_rfl) (A:l.aQ.Jk=true:=by kernel_rfl):bU P Q l a w:=
  ⟨lo (ag.Kl S (hc:=hc) (hcall:=hcall) (hd:=hd) (K:=fun _ _ _ _ _ B h1 ab aq=>(K _ _ _ _ _ B h1 ab aq).ok)) A⟩
theorem ag.I3 {l:bL} {α o:Type} [GT α] [GT o] {f:FuncId} {t:List Value} {d:Tmp} {r:α} {r':o} (S:ag P n w0 M u N β l.σ a w) (hc:Calls P f t.toArray w (cf I w r r')) (K:∀y z A q B F C,ag P n w0 M z A β (l.put d (.tuple #[GT.val r q,GT.val r' B])).σ y z->(∀b,N b->A b/\z.heap[b]? =u.heap[b]?)->af w0 M z A F r q->af w0 M z A C r' B->U N F->U N C->U F C->bU P Q (l.put d (.tuple #[GT.val r q,GT.val r' B])) y z) (hcall:ep P n l.aQ.opsOf l.aQ.idx l.σ=some (f,t,d):=by kernel_rfl) (hd:Nat.blt d n=true:=by kernel_rfl) (A:l.aQ.Jk=true:=by kernel_rfl):bU P Q l a w:=
  ⟨lo (ag.call2 S (hc:=hc) (hcall:=hcall) (hd:=hd) (K:=fun _ _ _ _ _ _ _ B h1 ab aq bg C D=>(K _ _ _ _ _ _ _ B h1 ab aq bg C D).ok)) A⟩
theorem ag.JK {l:bL} {α:Type} [GT α] {f:FuncId} {o:List Value} {d:Tmp} {r:α} {r':Int} {t:Bool} (S:ag P n w0 M u N β l.σ a w) (hc:Calls P f o.toArray w (g6 I w r r' t)) (K:∀y z A q F,ag P n w0 M z A β (l.put d (.tuple #[GT.val r q,O r',B t])).σ y z->(∀b,N b->A b/\z.heap[b]? =u.heap[b]?)->af w0 M z A F r q->U N F->au r'->bU P Q (l.put d (.tuple #[GT.val r q,O r',B t])) y z) (hcall:ep P n l.aQ.opsOf l.aQ.idx l.σ=some (f,o,d):=by kernel_rfl) (hd:Nat.blt d n=true:=by kernel_rfl) (A:l.aQ.Jk=true:=by kernel_rfl):bU P Q l a w:=
  ⟨lo (ag.call3 S (hc:=hc) (hcall:=hcall) (hd:=hd) (K:=fun _ _ _ _ _ C h1 ab aq bg=>(K _ _ _ _ _ C h1 ab aq bg).ok)) A⟩
theorem ag.Jm {l:bL} {α:Type} [GT α] [al α] {hd:α->Int->Int} {F:ah} {x:α} {p:GT.Ptr α} {k:Int} {f:FuncId} {q:List Value} {d:Tmp} (S:ag P n w0 M u N β l.σ a w) (o:af w0 M u N F x p) (hc:Calls P f q.toArray w (hH hd F w p x k)) (K:∀r t z p' y A,ag P n w0 M t z β (l.put d (O A)).σ r t->(∀b,N b->¬F b->z b/\t.heap[b]? =u.heap[b]?)->af w0 M t z F y p'->GT.cells y p'=GT.cells x p->hd y k=A->k<=A->A<=k+16*(al.ao x:Nat)->bU P Q (l.put d (O A)) r t) (hcall:ep P n l.aQ.opsOf l.aQ.idx l.σ=some (f,q,d):=by kernel_rfl) (hd':Nat.blt d n=true:=by kernel_rfl) (A:l.aQ.Jk=true:=by kernel_rfl):bU P Q l a w:=
  ⟨lo (ag.KW S (o:=o) (hc:=hc) (hcall:=hcall) (hd':=hd') (K:=fun _ _ _ _ _ _ B h1 ab aq bg C D=>(K _ _ _ _ _ _ B h1 ab aq bg C D).ok)) A⟩
theorem ag.Kt {l:bL} {α t:Type} [GT α] [GT t] {F:ah} {x:α} {p:GT.Ptr α} {f:FuncId} {y:List Value} {d:Tmp} {r:t} (S:ag P n w0 M u N β l.σ a w) (o:af w0 M u N F x p) (hc:Calls P f y.toArray w (gy F F w r)) (K:∀z A B q C,ag P n w0 M A B β (l.put d (GT.val r q)).σ z A->(∀b,N b->¬F b->B b/\A.heap[b]? =u.heap[b]?)->af w0 M A B C r q->(∀D:ah,U D F->(∀b,D b->N b)->U D C)->bU P Q (l.put d (GT.val r q)) z A) (hcall:ep P n l.aQ.opsOf l.aQ.idx l.σ=some (f,y,d):=by kernel_rfl) (hd:Nat.blt d n=true:=by kernel_rfl) (A:l.aQ.Jk=true:=by kernel_rfl):bU P Q l a w:=
  ⟨lo (ag.Ky S (o:=o) (hc:=hc) (hcall:=hcall) (hd:=hd) (K:=fun _ _ _ _ _ B h1 ab aq=>(K _ _ _ _ _ B h1 ab aq).ok)) A⟩
theorem ag.JB {l:bL} {α t:Type} [GT α] [GT t] {F:ah} {x:α} {p:GT.Ptr α} {f:FuncId} {y:List Value} {d:Tmp} {r z:t} (S:ag P n w0 M u N β l.σ a w) (o:af w0 M u N F x p) (hY:z=r) (hc:Calls P f y.toArray w (gy F F w r)) (K:∀A B C q D,ag P n w0 M B C β (l.put d (GT.val z q)).σ A B->(∀b,N b->¬F b->C b/\B.heap[b]? =u.heap[b]?)->af w0 M B C D z q->(∀G:ah,U G F->(∀b,G b->N b)->U G D)->bU P Q (l.put d (GT.val z q)) A B) (hcall:ep P n l.aQ.opsOf l.aQ.idx l.σ=some (f,y,d):=by kernel_rfl) (hd:Nat.blt d n=true:=by kernel_rfl) (A:l.aQ.Jk=true:=by kernel_rfl):bU P Q l a w:=
  ⟨lo (ag.KV S (o:=o) (hY:=hY) (hc:=hc) (hcall:=hcall) (hd:=hd) (K:=fun _ _ _ _ _ B h1 ab aq=>(K _ _ _ _ _ B h1 ab aq).ok)) A⟩
theorem ag.JA {l:bL} {α:Type} [GT α] {R:GT.Ptr α->GT.Ptr α->Prop} {F:ah} {x:α} {a5:ak α} {f:FuncId} {q:List Value} {d:Tmp} {v:Value} {r:α} (S:ag P n w0 M u N β l.σ a w) (o:af w0 M u N F [x] a5) (hc:Calls P f q.toArray w (ki R F a5 w v r)) (K:∀t y z A B,ag P n w0 M y z β (l.put d v).σ t y->(∀b,N b->¬F b->z b/\y.heap[b]? =u.heap[b]?)->af w0 M y z B [r] ((a5.1,A):ak α)->(∀C:ah,U C F->(∀b,C b->N b)->U C B)->R (a5.2 0) (A 0)->bU P Q (l.put d v) t y) (hcall:ep P n l.aQ.opsOf l.aQ.idx l.σ=some (f,q,d):=by kernel_rfl) (hd:Nat.blt d n=true:=by kernel_rfl) (A:l.aQ.Jk=true:=by kernel_rfl):bU P Q l a w:=
  ⟨lo (ag.KS S (o:=o) (hc:=hc) (hcall:=hcall) (hd:=hd) (K:=fun _ _ _ _ _ B h1 ab aq bg=>(K _ _ _ _ _ B h1 ab aq bg).ok)) A⟩
theorem ag.Ks {l:bL} {α t y:Type} [GT α] [GT t] [GT y] {F:ah} {z:y} {a5:ak y} {f:FuncId} {A:List Value} {d:Tmp} {r:α} {r':t} {n':y} (S:ag P n w0 M u N β l.σ a w) (o:af w0 M u N F [z] a5) (hc:Calls P f A.toArray w (nB F a5 w r r' n')) (K:∀B C D q G H I,ag P n w0 M C D β (l.put d (.tuple #[GT.val r q,GT.val r' G])).σ B C->(∀b,N b->¬F b->D b/\C.heap[b]? =u.heap[b]?)->af w0 M C D H r q->af w0 M C D F [n'] ((a5.1,I):ak y)->U N H->bU P Q (l.put d (.tuple #[GT.val r q,GT.val r' G])) B C) (hcall:ep P n l.aQ.opsOf l.aQ.idx l.σ=some (f,A,d):=by kernel_rfl) (hd:Nat.blt d n=true:=by kernel_rfl) (A:l.aQ.Jk=true:=by kernel_rfl):bU P Q l a w:=
  ⟨lo (ag.KR S (o:=o) (hc:=hc) (hcall:=hcall) (hd:=hd) (K:=fun _ _ _ _ _ _ _ B h1 ab aq bg=>(K _ _ _ _ _ _ _ B h1 ab aq bg).ok)) A⟩
theorem ag.Js {f:bL} {α:Type} [GT α] {m by':Nat} {d:Tmp} (S:ag P n w0 M u N β f.σ a w) (hb:by'*m<=281474976710656) (hm:m<=a2) (K:∀l o r q F,ag P n w0 M o r β (f.put d (J m q.1)).σ l o->(∀b,N b->r b/\o.heap[b]? =u.heap[b]?)->
      af w0 M o r F (List.replicate m (GT.cB:α)) q->U N F->bU P Q (f.put d (J m q.1)) l o) (hop:uj P n f.aQ.opsOf f.aQ.idx f.σ=some (O m,GT.cells (GT.cB:α) GT.bW,by',GT.width α,d):=by kernel_rfl) (A:f.aQ.Jk=true:=by kernel_rfl):bU P Q f a w:=
  ⟨lo (ag.make S (hop:=hop) (hb:=hb) (hm:=hm) (K:=fun _ _ _ _ _ B h1 ab aq=>(K _ _ _ _ _ B h1 ab aq).ok)) A⟩
theorem ag.I_ {f:bL} {α:Type} [GT α] {d:Tmp} (S:ag P n w0 M u N β f.σ a w) (K:∀l o r q F,ag P n w0 M o r β (f.put d (J 0 q.1)).σ l o->(∀b,N b->r b/\o.heap[b]? =u.heap[b]?)->
      af w0 M o r F ([]:List α) q->U N F->bU P Q (f.put d (J 0 q.1)) l o) (hop:kq P n f.aQ.opsOf f.aQ.idx f.σ=some ([],0,d):=by kernel_rfl) (A:f.aQ.Jk=true:=by kernel_rfl):bU P Q f a w:=
  ⟨lo (ag.Kx S (hop:=hop) (K:=fun _ _ _ _ _ B h1 ab aq=>(K _ _ _ _ _ B h1 ab aq).ok)) A⟩
theorem ag.Je {f:bL} {α:Type} [GT α] {x:α} {p:GT.Ptr α} {F:ah} {d:Tmp} (S:ag P n w0 M u N β f.σ a w) (hx:GT.own a2 F u x p) (hN:∀b,F b->N b) (hY:∀b,F b->w0.heap.size<=b\/M b) (K:∀l o r q t,ag P n w0 M o r β (f.put d (J 1 q.1)).σ l o->(∀b,N b->r b/\o.heap[b]? =u.heap[b]?)->
      af w0 M o r t [x] q->(∀y:ah,U y F->(∀b,y b->N b)->U y t)->bU P Q (f.put d (J 1 q.1)) l o) (hop:kq P n f.aQ.opsOf f.aQ.idx f.σ=some (GT.cells x p,1,d):=by kernel_rfl) (A:f.aQ.Jk=true:=by kernel_rfl):bU P Q f a w:=
  ⟨lo (ag.JW S (hx:=hx) (hN:=hN) (hY:=hY) (hop:=hop) (K:=fun _ _ _ _ _ B h1 ab aq=>(K _ _ _ _ _ B h1 ab aq).ok)) A⟩
theorem ag.JN {f:bL} {α:Type} [GT α] {xs l:List α} {p q:ak α} {F Fy:ah} {by' lx ly:Nat} {d:Tmp} (S:ag P n w0 M u N β f.σ a w) (hx:af w0 M u N F xs p) (hy:af w0 M u N Fy l q) (hd:U F Fy) (hlx:lx=xs.length) (hly:ly=l.length) (hl:xs.length+l.length<=a2) (K:∀o t y r z,ag P n w0 M t y β (f.put d (J (xs++l).length r.1)).σ o t->(∀b,N b->¬F b->y b/\t.heap[b]? =u.heap[b]?)->
      af w0 M t y z (xs++l) r->(∀A:ah,U A F->U A Fy->(∀b,A b->N b)->U A z)->bU P Q (f.put d (J (xs++l).length r.1)) o t) (hop:iJ P n f.aQ.opsOf f.aQ.idx f.σ=some (J lx p.1,J ly q.1,GT.width α,by',d):=by kernel_rfl) (A:f.aQ.Jk=true:=by kernel_rfl):bU P Q f a w:=
  ⟨lo (ag.J3 S (hx:=hx) (hy:=hy) (hd:=hd) (hlx:=hlx) (hly:=hly) (hop:=hop) (hl:=hl) (K:=fun _ _ _ _ _ B h1 ab aq=>(K _ _ _ _ _ B h1 ab aq).ok)) A⟩
theorem ag.Jl {f:bL} {α:Type} [GT α] {xs l:List α} {p q:ak α} {F:ah} {by' lx ly:Nat} {d:Tmp} (S:ag P n w0 M u N β f.σ a w) (hx:af w0 M u N F xs p) (hyr:i_ u N l q) (hfl:∀(x:α) (r:GT.Ptr α),GT.rd a2 N u x r->GT.own a2 I u x r) (hlx:lx=xs.length) (hly:ly=l.length) (hl:xs.length+l.length<=a2) (K:∀o t y r z,ag P n w0 M t y β (f.put d (J (xs++l).length r.1)).σ o t->(∀b,N b->¬F b->y b/\t.heap[b]? =u.heap[b]?)->
      af w0 M t y z (xs++l) r->(∀A:ah,U A F->(∀b,A b->N b)->U A z)->bU P Q (f.put d (J (xs++l).length r.1)) o t) (hop:iJ P n f.aQ.opsOf f.aQ.idx f.σ=some (J lx p.1,J ly q.1,GT.width α,by',d):=by kernel_rfl) (A:f.aQ.Jk=true:=by kernel_rfl):bU P Q f a w:=
  ⟨lo (ag.Kh S (hx:=hx) (hyr:=hyr) (hfl:=hfl) (hlx:=hlx) (hly:=hly) (hop:=hop) (hl:=hl) (K:=fun _ _ _ _ _ B h1 ab aq=>(K _ _ _ _ _ B h1 ab aq).ok)) A⟩
theorem ag.Jn {f:bL} {α:Type} [GT α] {l:List α} {p q:ak α} {F:ah} {by' lx ly:Nat} {d:Tmp} (S:ag P n w0 M u N β f.σ a w) (hx:af w0 M u N F ([]:List α) p) (hyr:i_ u N l q) (hfl:∀(x:α) (r:GT.Ptr α),GT.rd a2 N u x r->GT.own a2 I u x r) (hly:ly=l.length) (K:∀o t y r z,ag P n w0 M t y β (f.put d (J l.length r.1)).σ o t->(∀b,N b->¬F b->y b/\t.heap[b]? =u.heap[b]?)->
      af w0 M t y z l r->(∀A:ah,U A F->(∀b,A b->N b)->U A z)->bU P Q (f.put d (J l.length r.1)) o t) (hlx:lx=0:=by rfl) (hop:iJ P n f.aQ.opsOf f.aQ.idx f.σ=some (J lx p.1,J ly q.1,GT.width α,by',d):=by kernel_rfl) (A:f.aQ.Jk=true:=by kernel_rfl):bU P Q f a w:=
  ⟨lo (ag.Kv S (hx:=hx) (hyr:=hyr) (hfl:=hfl) (hly:=hly) (hlx:=hlx) (hop:=hop) (K:=fun _ _ _ _ _ B h1 ab aq=>(K _ _ _ _ _ B h1 ab aq).ok)) A⟩
theorem ag.KP {d:bL} {α:Type} [GT α] {xs:List α} {p:ak α} {F Fy:ah} {k j off:Nat} {t:TypeId} {v:Value} {y:α} {q:GT.Ptr α} (S:ag P n w0 M u N β d.σ a w) (hx:af w0 M u N F xs p) (hy:∀f,GT.own a2 f u (el xs k) (p.2 k)->(∀b,f b->F b)->∃l,GT.own a2 l u y q/\∀b,l b->f b\/Fy b) (hd:U F Fy) (hyN:∀b,Fy b->N b) (hyY:∀b,Fy b->w0.heap.size<=b\/M b) (K:∀o r z A,ag P n w0 M o r β d.Ju.σ a o->(∀b,N b->¬F b->r b/\o.heap[b]? =u.heap[b]?)->
      af w0 M o r z (xs.set k y) (p.1,A)->(∀f:ah,U f F->U f Fy->(∀b,f b->N b)->U f z)->(∀b,z b->F b\/Fy b)->(∀b,N b->r b)->bU P Q d.Ju a o) (hop:h3 d.aQ.opsOf d.aQ.idx d.σ=some (t,aL p.1.b off,v):=by kernel_rfl) (hoff:off=p.1.off+k*GT.width α+j:=by kernel_rfl) (hk:k<xs.length:=by omega) (hs:eZ P t=some v.cells.toList.length:=by kernel_rfl) (hpl:v.cells.toList.all (·.oneCell')=true:=by kernel_rfl) (hjw:Nat.ble (j+v.cells.toList.length) (GT.width α)=true:=by kernel_rfl) (hc:GT.cells y q=(GT.cells (el xs k) (p.2 k)).take j++v.cells.toList++(GT.cells (el xs k) (p.2 k)).drop (j+v.cells.toList.length):=by kernel_rfl) (A:d.aQ.Jk=true:=by kernel_rfl):bU P Q d a w:=
  ⟨lo (ag.JR S (hx:=hx) (hy:=hy) (hd:=hd) (hyN:=hyN) (hyY:=hyY) (hop:=hop) (hoff:=hoff) (hk:=hk) (hs:=hs) (hpl:=hpl) (hjw:=hjw) (hc:=hc) (K:=fun _ _ _ _ B h1 ab aq bg C=>(K _ _ _ _ B h1 ab aq bg C).ok)) A⟩
theorem ag.I4 {d:bL} {α:Type} [GT α] {xs:List α} {p:ak α} {F:ah} {k j off:Nat} {t:TypeId} {v:Value} {y:α} {q:GT.Ptr α} (S:ag P n w0 M u N β d.σ a w) (hx:af w0 M u N F xs p) (hy:∀f,GT.own a2 f u (el xs k) (p.2 k)->(∀b,f b->F b)->∃l,GT.own a2 l u y q/\∀b,l b->f b\/I b) (K:∀o r z A,ag P n w0 M o r β d.Ju.σ a o->(∀b,N b->¬F b->r b/\o.heap[b]? =u.heap[b]?)->
      af w0 M o r z (xs.set k y) (p.1,A)->(∀f:ah,U f F->U f I->(∀b,f b->N b)->U f z)->(∀b,z b->F b\/I b)->(∀b,N b->r b)->bU P Q d.Ju a o) (hop:h3 d.aQ.opsOf d.aQ.idx d.σ=some (t,aL p.1.b off,v):=by kernel_rfl) (hoff:off=p.1.off+k*GT.width α+j:=by kernel_rfl) (hk:k<xs.length:=by omega) (hs:eZ P t=some v.cells.toList.length:=by kernel_rfl) (hpl:v.cells.toList.all (·.oneCell')=true:=by kernel_rfl) (hjw:Nat.ble (j+v.cells.toList.length) (GT.width α)=true:=by kernel_rfl) (hc:GT.cells y q=(GT.cells (el xs k) (p.2 k)).take j++v.cells.toList++(GT.cells (el xs k) (p.2 k)).drop (j+v.cells.toList.length):=by kernel_rfl) (A:d.aQ.Jk=true:=by kernel_rfl):bU P Q d a w:=
  ⟨lo (ag.JM S (hx:=hx) (hy:=hy) (hop:=hop) (hoff:=hoff) (hk:=hk) (hs:=hs) (hpl:=hpl) (hjw:=hjw) (hc:=hc) (K:=fun _ _ _ _ B h1 ab aq bg C=>(K _ _ _ _ B h1 ab aq bg C).ok)) A⟩
theorem ag.cy {d:bL} {α:Type} [GT α] {xs:List α} {p:ak α} {F Fy:ah} {k off:Nat} {t:TypeId} {y:α} {q:GT.Ptr α} (S:ag P n w0 M u N β d.σ a w) (hx:af w0 M u N F xs p) (hy:af w0 M u N Fy y q) (hd:U F Fy) (K:∀f l o r,ag P n w0 M f l β d.Ju.σ a f->(∀b,N b->¬F b->l b/\f.heap[b]? =u.heap[b]?)->
      af w0 M f l o (xs.set k y) (p.1,r)->(∀z:ah,U z F->U z Fy->(∀b,z b->N b)->U z o)->(∀b,o b->F b\/Fy b)->(∀b,N b->l b)->bU P Q d.Ju a f) (hop:h3 d.aQ.opsOf d.aQ.idx d.σ=some (t,aL p.1.b off,GT.val y q):=by kernel_rfl) (hoff:off=p.1.off+k*GT.width α+0:=by kernel_rfl) (hk:k<xs.length:=by omega) (hs:eZ P t=some (GT.val y q).cells.toList.length:=by kernel_rfl) (hpl:(GT.val y q).cells.toList.all (·.oneCell')=true:=by kernel_rfl) (hjw:Nat.ble (0+(GT.val y q).cells.toList.length) (GT.width α)=true:=by kernel_rfl) (hc:GT.cells y q=(GT.cells (el xs k) (p.2 k)).take 0++(GT.val y q).cells.toList++(GT.cells (el xs k) (p.2 k)).drop (0+(GT.val y q).cells.toList.length):=by kernel_rfl) (A:d.aQ.Jk=true:=by kernel_rfl):bU P Q d a w:=
  ⟨lo (ag.Jc S (hx:=hx) (hy:=hy) (hd:=hd) (hop:=hop) (hoff:=hoff) (hk:=hk) (hs:=hs) (hpl:=hpl) (hjw:=hjw) (hc:=hc) (K:=fun _ _ _ _ B h1 ab aq bg C=>(K _ _ _ _ B h1 ab aq bg C).ok)) A⟩
theorem ag.J2 {d:bL} {α:Type} [GT α] {xs:List α} {p:ak α} {F Fy:ah} {k j off:Nat} {t:TypeId} {v:Value} {y:α} {q:GT.Ptr α} (S:ag P n w0 M u N β d.σ a w) (hx:af w0 M u N F xs p) (hk:k<xs.length) (hjw:j+v.cells.toList.length<=GT.width α) (hy:∀f,GT.own a2 f u (el xs k) (p.2 k)->(∀b,f b->F b)->∃l,GT.own a2 l u y q/\∀b,l b->f b\/Fy b) (hd:U F Fy) (hyN:∀b,Fy b->N b) (hyY:∀b,Fy b->w0.heap.size<=b\/M b) (K:∀o r z A,ag P n w0 M o r β d.Ju.σ a o->(∀b,N b->¬F b->r b/\o.heap[b]? =u.heap[b]?)->
      af w0 M o r z (xs.set k y) (p.1,A)->(∀f:ah,U f F->U f Fy->(∀b,f b->N b)->U f z)->(∀b,z b->F b\/Fy b)->(∀b,N b->r b)->bU P Q d.Ju a o) (hop:h3 d.aQ.opsOf d.aQ.idx d.σ=some (t,aL p.1.b off,v):=by kernel_rfl) (hoff:off=p.1.off+k*GT.width α+j:=by kernel_rfl) (hs:eZ P t=some v.cells.toList.length:=by kernel_rfl) (hpl:v.cells.toList.all (·.oneCell')=true:=by kernel_rfl) (hc:GT.cells y q=(GT.cells (el xs k) (p.2 k)).take j++v.cells.toList++(GT.cells (el xs k) (p.2 k)).drop (j+v.cells.toList.length):=by kernel_rfl) (A:d.aQ.Jk=true:=by kernel_rfl):bU P Q d a w:=
  ⟨lo (ag.Kf S (hx:=hx) (hop:=hop) (hoff:=hoff) (hk:=hk) (hs:=hs) (hpl:=hpl) (hjw:=hjw) (hc:=hc) (hy:=hy) (hd:=hd) (hyN:=hyN) (hyY:=hyY) (K:=fun _ _ _ _ B h1 ab aq bg C=>(K _ _ _ _ B h1 ab aq bg C).ok)) A⟩
theorem ag.Kg {d:bL} {α:Type} [GT α] {xs:List α} {p:ak α} {F Fy:ah} {k j off:Nat} {t:TypeId} {v:Value} {y:α} {q:GT.Ptr α} (S:ag P n w0 M u N β d.σ a w) (hx:af w0 M u N F xs p) (hk:k<xs.length) (hjw:j+v.cells.toList.length<=GT.width α) (hy:∀f,GT.own a2 f u (el xs k) (p.2 k)->(∀b,f b->F b)->∃l,GT.own a2 l u y q/\∀b,l b->f b\/Fy b) (hd:U F Fy) (hyN:∀b,Fy b->N b) (hyY:∀b,Fy b->w0.heap.size<=b\/M b) (K:∀o r z,ag P n w0 M o r β d.Ju.σ a o->(∀b,N b->¬F b->r b/\o.heap[b]? =u.heap[b]?)->
      af w0 M o r z (xs.set k y) ((p.1,fun i=>if i=k then q else p.2 i):ak α)->(∀f:ah,U f F->U f Fy->(∀b,f b->N b)->U f z)->(∀b,z b->F b\/Fy b)->(∀b,N b->r b)->bU P Q d.Ju a o) (hop:h3 d.aQ.opsOf d.aQ.idx d.σ=some (t,aL p.1.b off,v):=by kernel_rfl) (hoff:off=p.1.off+k*GT.width α+j:=by kernel_rfl) (hs:eZ P t=some v.cells.toList.length:=by kernel_rfl) (hpl:v.cells.toList.all (·.oneCell')=true:=by kernel_rfl) (hc:GT.cells y q=(GT.cells (el xs k) (p.2 k)).take j++v.cells.toList++(GT.cells (el xs k) (p.2 k)).drop (j+v.cells.toList.length):=by kernel_rfl) (A:d.aQ.Jk=true:=by kernel_rfl):bU P Q d a w:=
  ⟨lo (ag.Jy S (hx:=hx) (hop:=hop) (hoff:=hoff) (hk:=hk) (hs:=hs) (hpl:=hpl) (hjw:=hjw) (hc:=hc) (hy:=hy) (hd:=hd) (hyN:=hyN) (hyY:=hyY) (K:=fun _ _ _ B h1 ab aq bg C=>(K _ _ _ B h1 ab aq bg C).ok)) A⟩
def bL.Jx (r:bL) (k b:Nat):bL:=⟨r.aQ,r.σ.Jx k b,[]⟩
theorem ag.Jf {d:bL} (S:ag P n w0 M u N β d.σ a w) {α:Type} [GT α] (k:Nat) (x:α) (p:GT.Ptr α) (hx:GT.own a2 I w x p)
    (K:∀(β':Nat->Nat) (f:ah) (b:Nat) (F:ah),ag P n w0 M w f β' (d.Jx k b).σ a w->(∀b,N b->f b/\w.heap[b]? =u.heap[b]?)->af w0 M w f F [x] (ba b p)->U N F->bU P Q (d.Jx k b) a w)
    (hk:d.σ.aN[k]? =some (GT.cells x p):=by kernel_rfl):bU P Q d a w:=⟨S.Jx k x p hx (fun β' f b F A h1 ab aq=>(K β' f b F A h1 ab aq).ok) hk⟩
theorem ag.JT {d:bL} (S:ag P n w0 M u N β d.σ a w) {α:Type} [GT α] (k:Nat) {x:α} {p:GT.Ptr α} {f:ah} (hx:af w0 M u N f x p)
    (K:∀(β':Nat->Nat) (l:ah) (b:Nat) (F:ah),ag P n w0 M w l β' (d.Jx k b).σ a w->(∀b,N b->l b/\w.heap[b]? =u.heap[b]?)->af w0 M w l F [x] (ba b p)->(∀o:ah,U o f->(∀b,o b->N b)->U o F)->bU P Q (d.Jx k b) a w)
    (hk:d.σ.aN[k]? =some (GT.cells x p):=by kernel_rfl):bU P Q d a w:=⟨S.K0 k hx (fun β' l b F A h1 ab aq=>(K β' l b F A h1 ab aq).ok) hk⟩
end
end Go.Proofs.YtkggcdhigchepaaGreat
namespace Go.Proofs.YtkggcdhigchepaaGreat
open Go
def jg (x:Int):Int:=(Lib.bitLen x.toNat:Int)
def du (p:Int):Int:=if av p 0 255=true then jg p-1 else-1
def iK (p n:Nat):Bool:=eX (hZ (p:Int) (n:Int)) 1==1
theorem HF:(List.range 256).all (fun p=>(List.range 8).all fun n=>(!iK p n|| !((List.range 8).all fun j=>decide (j<=n)|| !iK p j))||((Lib.bitLen p:Int)-1==n))=true:=by kernel_rfl
theorem HG:(List.range 256).all (fun p=>!((List.range 8).all fun j=>!iK p j)||((Lib.bitLen p:Int)-1== -1))=true:=by kernel_rfl
theorem HE:(List.range 256).all (fun p=>decide (Lib.bitLen p<=8))=true:=by kernel_rfl
theorem HA:(List.range 256).all (fun p=>Lib.bitLen p==0||(IntKind.i64.wrap ((p:Int)-ga 1 ((Lib.bitLen p:Int)-1))==lX (p:Int) (ga 1 ((Lib.bitLen p:Int)-1))))=true:=by kernel_rfl
theorem HC {p n:Int} (aY:av p 0 255=true) (bc:-1<=n/\n<=7) (d:0<=n) (hb:eX (hZ p n) 1=1) (f:∀j:Nat,n<(j:Int)->j<8->¬eX (hZ p (j:Int)) 1=1):du p=n:=by
  have h1:=bj aY;obtain⟨l,rfl⟩:=Int.eq_ofNat_of_zero_le h1.1;obtain⟨m,rfl⟩:=Int.eq_ofNat_of_zero_le d;have hx:=List.all_eq_true.1 (List.all_eq_true.1 HF l (List.mem_range.2 V)) m (List.mem_range.2 V);have A:iK l m=true:=by unfold iK;exact beq_iff_eq.2 hb
  have B:((List.range 8).all fun j=>decide (j<=m)|| !iK l j)=true:=by
    rw [List.all_eq_true];intro j C;by_cases D:j<=m
    · simp [D]
    · have:=f j V (List.mem_range.1 C);have D:iK l j=false:=by unfold iK;exact beq_eq_false_iff_ne.2 this
      simp [D]
  rw [A,B] at hx;simp only [Bool.not_true,Bool.or_self,Bool.false_or,beq_iff_eq] at hx;unfold du jg;rw [if_pos aY];exact hx
theorem HD {p n:Int} (aY:av p 0 255=true) (d:n<0) (f:∀j:Nat,n<(j:Int)->j<8->¬eX (hZ p (j:Int)) 1=1):du p=-1:=by
  have h1:=bj aY;obtain⟨A,rfl⟩:=Int.eq_ofNat_of_zero_le h1.1;have hx:=List.all_eq_true.1 HG A (List.mem_range.2 V);have B:((List.range 8).all fun j=>!iK A j)=true:=by
    rw [List.all_eq_true];intro j C;have:=f j V (List.mem_range.1 C);have D:iK A j=false:=by unfold iK;exact beq_eq_false_iff_ne.2 this
    simp [D]
  rw [B] at hx;simp only [Bool.not_true,Bool.false_or,beq_iff_eq] at hx;unfold du jg;rw [if_pos aY];exact hx
theorem vh {p:Int} (aY:av p 0 255=false):du p=-1:=by
  unfold du;rw [if_neg (by simp [aY])]
theorem nx (p:Int):-1<=du p/\du p<=7:=by
  unfold du;split
  · rename_i aY;have h1:=bj aY;have:=List.all_eq_true.1 HE p.toNat (List.mem_range.2 V);have:=of_decide_eq_true this;unfold jg;omega
  · omega
def cl (p:Int):Int×Int×Bool:=if du p<0 then(p,-1,false) else(lX p (ga 1 (du p)),du p,true)
theorem rV {p:Int} (h:¬du p<0):IntKind.i64.wrap (p-ga 1 (du p))=lX p (ga 1 (du p)):=by
  unfold du at h ⊢;by_cases aY:av p 0 255=true
  · rw [if_pos aY] at h ⊢;have h1:=bj aY;obtain⟨d,rfl⟩:=Int.eq_ofNat_of_zero_le h1.1;have hx:=List.all_eq_true.1 HA d (List.mem_range.2 V);have f:(Lib.bitLen d==0)=false:=by
      rw [beq_eq_false_iff_ne];intro e;apply h;show(Lib.bitLen d:Int)-1<0;omega
    rw [f] at hx;simp only [Bool.false_or,beq_iff_eq] at hx;exact hx
  · rw [if_neg aY] at h;exact absurd (by decide) h
def c3 (b:aI):aI×Int×Bool:=
  if c_ b=true/\(cl b.IA).2.2=true then(⟨b.Iy,b.L,b.ID,(cl b.IA).1⟩,(cl b.IA).2.1,true) else(b,-1,false)
theorem rU {p:Int} (h:au p):au (cl p).1:=by
  unfold cl;split
  · exact h
  · exact Fh _ _
theorem Ay {p:Int}:au (cl p).2.1:=by
  unfold cl;have:=nx p;split
  · exact⟨by simp only;omega,by simp only;omega⟩
  · exact⟨by simp only;omega,by simp only;omega⟩
theorem bitLenAux_le:∀(f x:Nat),Lib.bitLenAux f x<=f
  |
    0,_=>Nat.le_refl _
  |f+1,x=>by
    unfold Lib.bitLenAux;split
    · omega
    · have:=bitLenAux_le f (x / 2);omega
theorem A9 (x:Int):0<=jg x/\jg x<=64:=by
  have:=bitLenAux_le 64 x.toNat;unfold jg Lib.bitLen;omega
theorem vw {b:aI} (h:c_ b=true):c3 b=(⟨b.Iy,b.L,b.ID,(cl b.IA).1⟩,(cl b.IA).2.1,(cl b.IA).2.2):=by
  unfold c3;split
  · rename_i e;rw [e.2]
  · rename_i e;have ab:(cl b.IA).2.2=false:=by
      cases d:(cl b.IA).2.2 with
      |false=>rfl
      |true=>exact absurd ⟨h,d⟩ e
    unfold cl at ab ⊢;split at ab
    · rename_i f;rw [if_pos f]
    · cases ab
end Go.Proofs.YtkggcdhigchepaaGreat
namespace Go.Proofs.YtkggcdhigchepaaGreat
open Go
def cD (b:aI):aI×Bool:=((c3 b).1,(c3 b).2.2)
def jf (h:aa) (m n:Int):Int:=if b8 h=true/\0<=m/\m<h.H.length then(c3 (aJ h m)).2.1 else n
def dK (h:aa) (m:Int):aa×Int×Bool:=((bt h m (cD (aJ h m))).1,jf h m (-1),(bt h m (cD (aJ h m))).2)
theorem vt (b d:aI) (h1:c_ b=c_ d) (bg:b.IA=d.IA):(c3 b).2=(c3 d).2/\(c3 b).1.IA=(c3 d).1.IA:=by
  unfold c3;rw [h1,bg];split
  · exact⟨rfl,rfl⟩
  · exact⟨rfl,bg⟩
theorem oH (b:aI):(c3 b).1.L=b.L:=by
  unfold c3;split<;>rfl
theorem Fo:Loc cD where
  eq b f h1 ab _ bg:=by
    obtain⟨l,o⟩:=vt b f h1 bg;exact⟨congrArg (·.2) l,by show(c3 b).1.L=(c3 f).1.L;rw [oH,oH,ab],o⟩
  no b h:=by
    refine⟨oH b,?_⟩;have d:(c3 b).2.2=false:=h;show(c3 b).1.IA=b.IA;unfold c3 at d ⊢;split at d
    · cases d
    · rename_i bc;rw [if_neg bc]
theorem x0 {h:aa} {m:Int} (e:dO h m=false):dK h m=(h,-1,false):=by
  have bc:¬(b8 h=true/\0<=m/\m<h.H.length):=fun h1=>by rw [gQ h1] at e;cases e
  unfold dK bt jf;rw [if_neg (fun h1=>bc h1.1),if_neg bc]
theorem xZ {h:aa} {m:Int} (e:dO h m=true):dK h m=(ec h m (c3 (cF (el h.H m.toNat))).1,(c3 (cF (el h.H m.toNat))).2.1,(c3 (cF (el h.H m.toNat))).2.2):=by
  have d:=fP e;have ab:=g2 Fo d;have f:=rE d.1 d.2;have l:=vi (iQ d.1 (k:=m.toNat) V);have o:=vt (aJ h m) (cF (el h.H m.toNat)) (f.trans l.symm) (by unfold aJ;rw [if_pos d.2];rfl);unfold dK jf;rw [if_pos d,ab,o.1];rfl
theorem G8 (h:aa) (m:Int):al.ao (dK h m).1<=4*al.ao h:=by
  have h1:=lA h m (cD (aJ h m));have aq:=lB h m;have ab:(cD (aJ h m)).1.L=(aJ h m).L:=oH _;rw [ab] at h1;unfold dK;simp only;omega
end Go.Proofs.YtkggcdhigchepaaGreat
namespace Go.Proofs.YtkggcdhigchepaaGreat
open Go
set_option linter.unusedVariables false
set_option linter.unusedSimpArgs false
def gj (k:a6) (inner:List aw) (Z:Int):a6:=(dX inner Z).foldl cS k
def hp (t:List a6) (g:List ai) (Z:Int):Nat->List a6
  |0=>t
  |k+1=>(hp t g Z k).set k (gj (el t k) (el g k).IF Z)
theorem oA (t:List a6) (g:List ai) (Z:Int) (k:Nat):(hp t g Z k).length=t.length:=by
  induction k with
  |zero=>rfl
  |succ k d=>rw [hp,List.length_set,d]
theorem vf (t:List a6) (g:List ai) (Z:Int) {k j:Nat} (h:k<=j):el (hp t g Z k) j=el t j:=by
  induction k with
  |zero=>rfl
  |succ k d=>
    rw [hp];have e:=d V;unfold el at e ⊢;rw [List.getD_eq_getElem?_getD,List.getElem?_set_ne V,←List.getD_eq_getElem?_getD];exact e
def hj (e:aG) (dc:Int):Bool:=e.dc==dc
theorem zy {e:aG} {d:Int} (h:¬e.dc=d):hj e d=false:=by simp [hj,h]
theorem zA {e:aG} {d:Int} (h:e.dc=d):hj e d=true:=by simp [hj,h]
def eG (b:List aG) (dc:Int):List aG:=fy b fun e=>hj e dc
def ji (b:List aG) (p:Int):List aG:=if p=-1 then b else eG b p
theorem pF {b:List aG} {p:Int} (h:p=-1):ji b p=b:=if_pos h
theorem pG {b:List aG} {p:Int} (h:¬p=-1):ji b p=eG b p:=if_neg h
def gU (h:aa) (m Z:Int) (s:aw):aa:=
  ⟨h.Iy,h.H.set m.toNat {el h.H m.toNat with Iz:=hp (el h.H m.toNat).Iz (el h.H m.toNat).L Z (el h.H m.toNat).L.length},ji h.IB s.Z,ji h.IC s.Z⟩
def eB (h:aa) (m Z:Int) (s:aw):aa:=
  ⟨h.Iy,h.H.set m.toNat {el h.H m.toNat with Iz:=hp (el h.H m.toNat).Iz (el h.H m.toNat).L Z (el h.H m.toNat).L.length,ad:=(el h.H m.toNat).ad.set Z.toNat s},
    ji h.IB (el (el h.H m.toNat).ad Z.toNat).Z,ji h.IC (el (el h.H m.toNat).ad Z.toNat).Z⟩
def eW (h:aa) (m:Int) (x:ay):aa:=⟨h.Iy,h.H.set m.toNat x,h.IB,h.IC⟩
def b_ (h:aa) (m Z:Int):Bool:=dO h m&&av Z 0 7
theorem ux {x:ay} (h:ed x=true):x.ad.length=8/\x.out.length=8/\x.IK.length=8/\x.Iz.length=x.L.length:=by
  have h1:=(jy h).1;simp only [ed,hh,Bool.and_eq_true,decide_eq_true_eq] at h;exact⟨h1,h.1.1.1.1.2,h.1.1.1.2,h.1.1.1.1.1.1.2⟩
theorem fp {h:aa} {m Z:Int} (e:b_ h m Z=true):(0<=m/\m<h.H.length)/\(0<=Z/\Z<=7)/\(el h.H m.toNat).ad.length=8/\(el h.H m.toNat).out.length=8/\(el h.H m.toNat).IK.length=8/\(el h.H m.toNat).Iz.length=(el h.H m.toNat).L.length:=by
  simp only [b_,Bool.and_eq_true] at e;have h1:=fP e.1;exact⟨h1.2,bj e.2,ux (iQ h1.1 V)⟩
theorem ES {h:aa} {m Z:Int} (e:b_ h m Z=true):(el (el h.H m.toNat).ad Z.toNat)=⟨-1,0⟩\/(0<=(el (el h.H m.toNat).ad Z.toNat).Z/\(el (el h.H m.toNat).ad Z.toNat).Z<=11):=by
  have ab:=fp e;simp only [b_,Bool.and_eq_true] at e;have h1:=fP e.1;have aq:=oz (jy (iQ h1.1 (k:=m.toNat) V)).2 (k:=Z.toNat) V;simp only [c4,Bool.or_eq_true,Bool.and_eq_true,decide_eq_true_eq] at aq;rcases aq with aq|aq
  · exact .inl aq
  · exact .inr (bj aq.1.2)
def Ib (h:aa) (m Z:Int):aw:=el (el h.H m.toNat).ad Z.toNat
theorem rN {h:aa} {m Z:Int} (e:b_ h m Z=true) (h1:(el (el h.H m.toNat).ad Z.toNat).Z=-1):el (el h.H m.toNat).ad Z.toNat=⟨-1,0⟩:=by
  rcases ES e with ab|ab
  · exact ab
  · omega
theorem qe {d h:aa} {m Z:Int} {s:aw} (e:d=gU h m Z s) (hm:m.toNat<h.H.length):d.H.length=h.H.length/\(el d.H m.toNat).ad.length=(el h.H m.toNat).ad.length/\(el d.H m.toNat).out.length=(el h.H m.toNat).out.length/\(el d.H m.toNat).IK.length=(el h.H m.toNat).IK.length/\(el d.H m.toNat).L.length=(el h.H m.toNat).L.length/\(el d.H m.toNat).Iz.length=(el h.H m.toNat).Iz.length:=by
  subst e;unfold gU;simp only [b4 hm,List.length_set,oA,and_self]
def fw (h:aa) (m Z:Int):aa×Bool:=
  if b_ h m Z=true then
    (if(el (el h.H m.toNat).ad Z.toNat).Z=-1 then eW h m {el h.H m.toNat with IK:=(el h.H m.toNat).IK.set Z.toNat false}
     else eB (eW h m {el h.H m.toNat with IK:=(el h.H m.toNat).IK.set Z.toNat false}) m Z ⟨(el (el h.H m.toNat).ad Z.toNat).Z,1⟩,true)
  else(h,false)
theorem xI {h:aa} {m Z:Int} (e:b_ h m Z=false):fw h m Z=(h,false):=by
  unfold fw;rw [if_neg (by rw [e];exact fun h=>by cases h)]
theorem xH {h:aa} {m Z:Int} {d:List ay} (e:b_ h m Z=true) (cZ:d=h.H.set m.toNat {el h.H m.toNat with IK:=(el h.H m.toNat).IK.set Z.toNat false}) (h1:el (el d m.toNat).ad Z.toNat=⟨-1,0⟩):fw h m Z=(⟨h.Iy,d,h.IB,h.IC⟩,true):=by
  have ab:=(fp e).1;subst cZ;rw [b4 (show m.toNat<h.H.length by omega)] at h1;unfold fw;rw [if_pos e,if_pos (congrArg aw.Z h1)];rfl
theorem xJ {h:aa} {m Z:Int} {d:List ay} (e:b_ h m Z=true) (cZ:d=h.H.set m.toNat {el h.H m.toNat with IK:=(el h.H m.toNat).IK.set Z.toNat false}) (h1:¬el (el d m.toNat).ad Z.toNat=⟨-1,0⟩):fw h m Z=(eB ⟨h.Iy,d,h.IB,h.IC⟩ m Z ⟨(el (el d m.toNat).ad Z.toNat).Z,1⟩,true):=by
  have ab:=(fp e).1;subst cZ;rw [b4 (show m.toNat<h.H.length by omega)] at h1 ⊢;unfold fw;rw [if_pos e,if_neg (fun aq=>h1 (rN e aq))];rfl
def dW (h:aa) (m Z:Int):aa:=
  eB (eW h m {el h.H m.toNat with out:=(el h.H m.toNat).out.set Z.toNat (eI h.Iy (el (el h.H m.toNat).ad Z.toNat).Z)}) m Z ⟨-1,0⟩
def fM (h:aa) (m Z:Int):aa×Bool:=
  if b_ h m Z=true/\¬(el (el h.H m.toNat).ad Z.toNat).Z=-1 then(dW h m Z,true) else(h,false)
theorem G4 (k:a6) (i:List aw) (p:Int):al.ao (gj k i p)=al.ao k:=by
  unfold gj;generalize dX i p=l
  induction l generalizing k with
  |nil=>rfl
  |cons x r d=>rw [List.foldl_cons,d,Ai]
theorem Hz (t:List a6) (g:List ai) (Z:Int) (k:Nat):c1 (hp t g Z k)=c1 t:=by
  induction k with
  |zero=>rfl
  |succ k d=>
    rw [hp];by_cases hk:k<(hp t g Z k).length
    · have h1:=iW (y:=gj (el t k) (el g k).IF Z) hk;rw [G4,vf t g Z (Nat.le_refl k)] at h1;omega
    · rw [List.set_eq_of_length_le V];exact d
theorem Af (b:List aG) (p:Int):al.ao (ji b p)<=al.ao b:=by
  unfold ji eG;split
  · exact Nat.le_refl _
  · have h:=jG b (fun e=>hj e p);rw [cg,cg,eR (fun _=>rfl),eR (fun _=>rfl)];omega
theorem oy (h:aa) (k:Nat) (y:ay) (b c:List aG) (hy:al.ao y<=al.ao (el h.H k)) (hb:al.ao b<=al.ao h.IB) (hc:al.ao c<=al.ao h.IC):al.ao (⟨h.Iy,h.H.set k y,b,c⟩:aa)<=al.ao h:=by
  rw [fj,fj h];simp only;have d:=cg h.H;have A:=cg (h.H.set k y);rw [List.length_set] at A;by_cases hk:k<h.H.length
  · have h1:=iW (y:=y) hk;omega
  · rw [List.set_eq_of_length_le V];omega
theorem Hl (x:ay) (t:List a6) (o:List aw) (h1:t.length=x.Iz.length) (ab:c1 t=c1 x.Iz) (aq:o.length=x.ad.length):al.ao {x with Iz:=t,ad:=o}<=al.ao x:=by
  rw [fk,fk x];simp only;rw [cg t,cg o,cg x.Iz,cg x.ad,eR (fun _=>rfl),eR (fun _=>rfl) x.ad];omega
theorem rS (h:aa) (m Z:Int) (s:aw):al.ao (eB h m Z s)<=al.ao h:=
  oy h _ _ _ _ (Hl _ _ _ (oA _ _ _ _) (Hz _ _ _ _) List.length_set) (Af _ _) (Af _ _)
theorem u_ (x:ay) (d:List Bool) (aq:d.length=x.IK.length):al.ao {x with IK:=d}<=al.ao x:=by
  rw [fk,fk x];simp only;rw [cg d,cg x.IK,eR (fun _=>rfl),eR (fun _=>rfl) x.IK];omega
theorem G5 (h:aa) (m Z:Int):al.ao (fw h m Z).1<=8*al.ao h:=by
  have h1:al.ao (eW h m {el h.H m.toNat with IK:=(el h.H m.toNat).IK.set Z.toNat false})<=al.ao h:=oy h _ _ _ _ (u_ _ _ List.length_set) (Nat.le_refl _) (Nat.le_refl _);have ab:=rS (eW h m {el h.H m.toNat with IK:=(el h.H m.toNat).IK.set Z.toNat false}) m Z ⟨(el (el h.H m.toNat).ad Z.toNat).Z,1⟩;unfold fw;split
  · show al.ao (ite _ _ _)<=_;split
    · exact Nat.le_trans h1 V
    · exact Nat.le_trans (Nat.le_trans ab h1) V
  · simp only;omega
end Go.Proofs.YtkggcdhigchepaaGreat
