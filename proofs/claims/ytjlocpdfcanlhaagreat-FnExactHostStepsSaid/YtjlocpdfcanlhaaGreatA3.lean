/- A region that draws its order, only asks, and guards operations by tests whose outcome is known: one walk in the text's order. No program is named here. -/
import Derived.Test.YtjlocpdfcanlhaaGreatA2
import Derived.Test.YtjlocpdfcanlhaaGreatA1
import Derived.KernelRfl
import Derived.Lib.BitFns
namespace Go.Proofs.YtjlocpdfcanlhaaGreat
open Go
def Lh:List (Nat×Bool)->Nat->Option Bool
  |[],_=>none
  |(s,x)::r,t=>bif Nat.beq s t then some x else Lh r t
def sL (eG:List (Nat×Bool)) (i:Nat) (x:eQ):eQ×List (Bool×Bool):=
  match Lh eG i,x with
  |some b,.v (.bool c)=>(.v (.bool b),[(c,b)])
  |_,x=>(x,[])
def jT:List (Bool×Bool)->Prop
  |[]=>True
  |p::r=>p.1=p.2/\jT r
theorem jT.nil:jT []:=trivial
theorem jT.cons {c b:Bool} {l:List (Bool×Bool)} (h:c=b) (t:jT l):jT ((c,b)::l):=⟨h,t⟩
theorem jT.left:∀{l r:List (Bool×Bool)},jT (l++r)->jT l
  |[],_,_=>trivial
  |_::_,_,h=>⟨h.1,jT.left h.2⟩
theorem jT.right:∀{l r:List (Bool×Bool)},jT (l++r)->jT r
  |[],_,h=>h
  |_::_,_,h=>jT.right (l:=_) h.2
theorem U1 {eG:List (Nat×Bool)} {i:Nat} {x:eQ} (h:jT (sL eG i x).2):(sL eG i x).1=x:=by
  unfold sL at h ⊢
  split
  · rename_i b c hb
    simp only [hb] at h
    have:=h.1
    simp only at this
    rw [this]
  · rfl
def qV (P:Program) (n:Nat) (ops:Array Oper) (eG:List (Nat×Bool)):Nat->List Oper->b3->List Value->Option (b3×List (Ask×Value)×List (Bool×Bool))
  |
    _,[],σ,_=>some (σ,[],[])
  |i,o::r,σ,c7=>
    match oy ops σ o with
    |none=>none
    |some false=>(σ.put n o.dst (.v undef)).bind fun σ'=>qV P n ops eG (i+1) r σ' c7
    |some true=>
      match tZ P σ o with
      |some (.val x)=>(σ.put n o.dst (sL eG i x).1).bind fun σ'=>(qV P n ops eG (i+1) r σ' c7).map fun z=>(z.1,z.2.1,(sL eG i x).2++z.2.2)
      |some (.ask q)=>
        match c7 with
        |[]=>none
        |v::t_=>(σ.put n o.dst (sL eG i (.v v)).1).bind fun σ'=>(qV P n ops eG (i+1) r σ' t_).map fun z=>(z.1,(q,v)::z.2.1,(sL eG i (.v v)).2++z.2.2)
      |_=>none
theorem D3 (P:Program) (n:Nat) (ops:Array Oper) (eG:List (Nat×Bool)):∀(l:List Oper) (i:Nat) (σ:b3) (c7:List Value) (z:b3×List (Ask×Value)×List (Bool×Bool)),
    qV P n ops eG i l σ c7=some z->jT z.2.2->k3 P n ops l σ c7=some (z.1,z.2.1)
  |
    [],i,σ,c7,z,h,hb=>by
    simp only [qV,Option.some.injEq] at h
    subst h
    rfl
  |o::l,i,σ,c7,z,h,hb=>by
    simp only [qV] at h
    simp only [k3]
    split at h
    · cases h
    · rename_i aJ
      try rw [aJ]
      try simp only
      cases bC:σ.put n o.dst (.v undef) with
      |none=>rw [bC] at h;cases h
      |some bH=>
        rw [bC] at h
        exact D3 P n ops eG l (i+1) bH c7 z h hb
    · rename_i aJ
      try rw [aJ]
      try simp only
      split at h
      · rename_i x hx
        rw [hx]
        simp only
        cases bC:σ.put n o.dst (sL eG i x).1 with
        |none=>rw [bC] at h;cases h
        |some bH=>
          rw [bC] at h
          simp only [Option.bind_some] at h
          cases bp:qV P n ops eG (i+1) l bH c7 with
          |none=>rw [bp] at h;cases h
          |some r=>
            rw [bp] at h
            simp only [Option.map_some,Option.some.injEq] at h
            subst h
            rw [U1 hb.left] at bC
            rw [bC]
            exact D3 P n ops eG l (i+1) bH c7 r bp hb.right
      · rename_i q hx
        rw [hx]
        simp only
        split at h
        · cases h
        · rename_i v t_
          cases bC:σ.put n o.dst (sL eG i (.v v)).1 with
          |none=>rw [bC] at h;cases h
          |some bH=>
            rw [bC] at h
            simp only [Option.bind_some] at h
            cases bp:qV P n ops eG (i+1) l bH t_ with
            |none=>rw [bp] at h;cases h
            |some r=>
              rw [bp] at h
              simp only [Option.map_some,Option.some.injEq] at h
              subst h
              rw [U1 hb.left] at bC
              have:=D3 P n ops eG l (i+1) bH t_ r bp hb.right
              simp only [bC,Option.bind_some,this,Option.map_some]
      · cases h
def Q2 (P:Program) (n:Nat) (ops:Array Oper) (eG:List (Nat×Bool)) (σ:b3) (c7:List Value) (keep:List Nat) (m:Nat):Option (b3×List (Ask×Value)×List (Bool×Bool)):=
  (qV P n ops eG 0 ops.toList σ c7).map fun x=>(⟨x.1.keep m keep,x.1.aM.take m⟩,x.2)
variable {P:Program} {n:Nat} {w0:World} {M:au} {u:World} {N:au} {β:Nat->Nat} {σ σ':b3} {a:Act} {w:World} {ops:Array Oper} {Q:Exit->Act->World->Prop}
theorem aj.oo (S:aj P n w0 M u N β σ a w) {id:Nat} (eG:List (Nat×Bool)) {claims:List (Ask×Value)} {np:List (Bool×Bool)} {keep:List Nat} {m:Nat} (a9:fA P u N claims)
    (hm:P.follows .mixedOrders=true) (cb:Region.lexB .any ops=true)
    (bW:Q2 P n ops eG σ (claims.map (·.2)) keep m=some (σ',claims,np)) (nZ:jT np) (K:∀a1 w',aj P n w0 M u N β σ' a1 w'->Q .normal a1 w'):(Code.region id ops true).wp P Q a w:=by
  unfold Q2 at bW
  cases bp:qV P n ops eG 0 ops.toList σ (claims.map (·.2)) with
  |none=>rw [bp] at bW;cases bW
  |some r=>
    rw [bp] at bW
    simp only [Option.map_some,Option.some.injEq,Prod.mk.injEq] at bW
    obtain⟨cu,cB⟩:=bW
    have an:r.2.2=np:=by rw [cB]
    have h1:r.2.1=claims:=by rw [cB]
    have hd:=D3 P n ops eG _ _ _ _ _ bp (by rw [an];exact nZ)
    refine S.drawn (claims:=claims) (keep:=keep) (m:=m) a9 hm cb ?_ K
    unfold IC
    rw [hd,h1,←cu]
    rfl
end Go.Proofs.YtjlocpdfcanlhaaGreat
namespace Go.Proofs.YtjlocpdfcanlhaaGreat
open Go
set_option linter.unusedSimpArgs false
set_option linter.unusedVariables false
def du (x:Int) (k:Int) (f:Int->Int):Int:=if x=k then f (IntKind.i64.wrap (k+1)) else-1
def fU (x:Bool) (k:Int) (f:Int->Int):Int:=if x=(Int.tmod k 3==0) then f (IntKind.i64.wrap (k+1)) else-1
def di (k:Int) (f:Int->Int):Int:=if k<0 then-1 else f k
theorem sj {x k:Int} {f:Int->Int} (h:x=k) (h1:-9223372036854775808<=k+1) (an:k+1<=9223372036854775807):du x k f=f (k+1):=by
  unfold du;rw [if_pos h,w6 ⟨h1,an⟩]
theorem si {x:Bool} {k:Int} {f:Int->Int} (h:x=(Int.tmod k 3==0)) (h1:-9223372036854775808<=k+1) (an:k+1<=9223372036854775807):fU x k f=f (k+1):=by
  unfold fU;rw [if_pos h,w6 ⟨h1,an⟩]
theorem A9 {k:Int} {f:Int->Int} (h:0<=k):di k f=f k:=by unfold di;rw [if_neg (by omega)]
theorem aa_ {α:Type} [GT α] {a:List α} {i:Nat} (h:i<a.length):a.drop i=el a i::a.drop (i+1):=by
  rw [p_ h,List.drop_eq_getElem_cons h]
theorem u_ {α:Type} [GT α] {xs:List α} {i k:Nat} {y:α} (e:¬i=k):el (xs.set k y) i=el xs i:=by
  unfold el
  rw [List.getD_eq_getElem?_getD,List.getD_eq_getElem?_getD,List.getElem?_set_ne (fun h=>e h.symm)]
class gW (α:Type) where
  he:α->Int->(Int->Int)->Int
section
variable {α:Type} [gW α]
def hE:List α->Int->(Int->Int)->Int
  |[],k,f=>f k
  |x::r,k,f=>gW.he x k fun k=>hE r k f
def aQ (xs:List α) (k:Int):Int:=hE xs k id
instance:gW Int:=⟨du⟩
instance:gW Bool:=⟨fU⟩
instance:gW (List α):=⟨fun x k f=>di (aQ x k) f⟩
theorem tE (x:List α) (k:Int) (f:Int->Int):gW.he x k f=di (aQ x k) f:=rfl
theorem Et (x k:Int) (f:Int->Int):gW.he x k f=du x k f:=rfl
theorem Eo (x:Bool) (k:Int) (f:Int->Int):gW.he x k f=fU x k f:=rfl
theorem yu (xs bl:List α) (k:Int) (f:Int->Int):hE (xs++bl) k f=hE xs k fun k=>hE bl k f:=by
  induction xs generalizing k with
  |nil=>rfl
  |cons x r gj=>simp only [List.cons_append,hE,gj]
theorem iB [GT α] {a:List α} {i:Nat} {j:Int} {f:Int->Int} (h:i<a.length):hE (a.drop i) j f=gW.he (el a i) j fun k=>hE (a.drop (i+1)) k f:=by
  rw [aa_ h];rfl
theorem sh {a:List α} {i:Nat} {j:Int} (h:a.length<=i):hE (a.drop i) j id=j:=by
  rw [List.drop_of_length_le h];rfl
theorem Fl [GT α] {acc:List α} {i:Nat} {k j Tt:Int} (h:i<acc.length) (nb:∀f,hE (acc.take i) k f=f j) (he:∀f,gW.he (el acc i) j f=f Tt):∀f,hE (acc.take (i+1)) k f=f Tt:=by
  intro f
  rw [jb h,yu,nb]
  exact he f
theorem Fk {acc:List α} {i:Nat} {k j:Int} (h:acc.length<=i) (nb:∀f,hE (acc.take i) k f=f j):aQ acc k=j:=by
  have:=nb id
  rwa [ff h] at this
end
theorem iO {α:Type} {xs:List α} {k:Nat} {y:α}:(xs.set k y).take k=xs.take k:=by
  rw [List.take_set_of_le (Nat.le_refl _)]
theorem ix {α:Type} {xs:List α} {k:Nat} {y:α}:(xs.set k y).drop (k+1)=xs.drop (k+1):=by
  rw [List.drop_set_of_lt (Nat.lt_succ_self _)]
theorem DV {α:Type} {xs bl:List α} {k:Nat} (h:xs.drop k=bl.drop k):xs.drop (k+1)=bl.drop (k+1):=by
  rw [←List.drop_drop,←List.drop_drop,h]
theorem D0 {α:Type} [GT α] {xs bl:List α} {k:Nat} (h:xs.drop k=bl.drop k):el xs k=el bl k:=by
  have e:(xs.drop k)[0]? =(bl.drop k)[0]? :=by rw [h]
  rw [List.getElem?_drop,List.getElem?_drop,Nat.add_zero] at e
  unfold el
  rw [List.getD_eq_getElem?_getD,List.getD_eq_getElem?_getD,e]
instance:gW aR:=⟨fun x k f=>du x.page k fun k=>du x.bg k fun k=>f k⟩
theorem Ew (x:aR) (k:Int) (f:Int->Int):gW.he x k f=du x.page k fun k=>du x.bg k fun k=>f k:=rfl
instance:gW aH:=⟨fun x k f=>du x.tag k fun k=>du x.page k fun k=>du x.host k fun k=>du x.bg k fun k=>f k⟩
theorem Ep (x:aH) (k:Int) (f:Int->Int):gW.he x k f=du x.tag k fun k=>du x.page k fun k=>du x.host k fun k=>du x.bg k fun k=>f k:=rfl
instance:gW da:=⟨fun x k f=>du x.eL k fun k=>du x.x k fun k=>f k⟩
theorem Es (x:da) (k:Int) (f:Int->Int):gW.he x k f=du x.eL k fun k=>du x.x k fun k=>f k:=rfl
instance:gW fy:=⟨fun x k f=>du x.aY k fun k=>du x.post k fun k=>fU x.e4 k fun k=>f k⟩
instance:gW dg:=⟨fun x k f=>du x.kind k fun k=>du x.page k fun k=>fU x.wr k fun k=>du x.n k fun k=>f k⟩
instance:gW nH:=⟨fun x k f=>du x.kind k fun k=>du x.m k fun k=>du x.g k fun k=>du x.x k fun k=>du x.y k fun k=>du x.z k fun k=>f k⟩
instance:gW pW:=⟨fun x k f=>fU x.ok k fun k=>du x.n k fun k=>f k⟩
instance:gW bS:=⟨fun x k f=>di (aQ x.known k) fun k=>di (aQ x.aZ k) fun k=>f k⟩
theorem Eu (x:bS) (k:Int) (f:Int->Int):gW.he x k f=di (aQ x.known k) fun k=>di (aQ x.aZ k) fun k=>f k:=rfl
def aoP (x:bS) (k:Int):Int:=di (aQ x.known k) fun k=>di (aQ x.aZ k) fun k=>k
instance:gW ax:=⟨fun x k f=>di (aQ x.prog k) fun k=>du x.acc k fun k=>du x.aw k fun k=>di (aQ x.written k) fun k=>di (aQ x.live k) fun k=>du x.aN.aY k fun k=>du x.aN.post k fun k=>fU x.aN.e4 k fun k=>du x.aC k fun k=>du x.exit.kind k fun k=>du x.exit.page k fun k=>fU x.exit.wr k fun k=>du x.exit.n k fun k=>fU x.halted k fun k=>di (aQ x.seen k) fun k=>f k⟩
theorem Er (x:ax) (k:Int) (f:Int->Int):gW.he x k f=di (aQ x.prog k) fun k=>du x.acc k fun k=>du x.aw k fun k=>di (aQ x.written k) fun k=>di (aQ x.live k) fun k=>du x.aN.aY k fun k=>du x.aN.post k fun k=>fU x.aN.e4 k fun k=>du x.aC k fun k=>du x.exit.kind k fun k=>du x.exit.page k fun k=>fU x.exit.wr k fun k=>du x.exit.n k fun k=>fU x.halted k fun k=>di (aQ x.seen k) fun k=>f k:=rfl
def aoO (x:ax) (k:Int):Int:=di (aQ x.prog k) fun k=>di (aQ x.written k) fun k=>di (aQ x.live k) fun k=>di (aQ x.seen k) fun k=>k
instance:gW aO:=⟨fun x k f=>di (aQ x.outer k) fun k=>di (aQ x.out k) fun k=>di (aQ x.aT k) fun k=>di (aQ x.U k) fun k=>di (aQ x.outs k) fun k=>du x.aC k fun k=>du x.aY k fun k=>di (aQ x.tables k) fun k=>du x.owned k fun k=>f k⟩
theorem Ev (x:aO) (k:Int) (f:Int->Int):gW.he x k f=di (aQ x.outer k) fun k=>di (aQ x.out k) fun k=>di (aQ x.aT k) fun k=>di (aQ x.U k) fun k=>di (aQ x.outs k) fun k=>du x.aC k fun k=>du x.aY k fun k=>di (aQ x.tables k) fun k=>du x.owned k fun k=>f k:=rfl
def aoQ (x:aO) (k:Int):Int:=di (aQ x.outer k) fun k=>di (aQ x.out k) fun k=>di (aQ x.aT k) fun k=>di (aQ x.U k) fun k=>di (aQ x.outs k) fun k=>di (aQ x.tables k) fun k=>k
instance:gW cP:=⟨fun x k f=>di (aQ x.mem k) fun k=>di (aQ x.U k) fun k=>di (aQ x.outs k) fun k=>du x.aC k fun k=>f k⟩
def aoN (x:cP) (k:Int):Int:=di (aQ x.mem k) fun k=>di (aQ x.U k) fun k=>di (aQ x.outs k) fun k=>k
instance:gW ah:=⟨fun x k f=>di (aQ x.mem k) fun k=>di (aQ x.I k) fun k=>di (aQ x.buf k) fun k=>di (aQ x.ag k) fun k=>f k⟩
def mz (x:ah) (k:Int):Int:=di (aQ x.mem k) fun k=>di (aQ x.I k) fun k=>di (aQ x.buf k) fun k=>di (aQ x.ag k) fun k=>k
theorem SC (k:Int) (h0:0<=k):∀n:Nat,k+1*(n:Int)<=4611686018427387904->∀f,hE (ov n k) k f=f (k+1*(n:Int))
  |
    0,_,f=>by
    show f k=_
    congr 1;omega
  |n+1,h,f=>by
    have e:ov (n+1) k=ov n k++[yh (k+1*(n:Int))]:=by
      unfold ov;rw [List.range_succ,List.map_append];rfl
    rw [e,yu,SC k h0 n (by omega)]
    show gW.he (yh (k+1*(n:Int))) (k+1*(n:Int)) f=_
    generalize bZ:k+1*(n:Int)=j
    simp (disch:=first|omega|rfl) only [Et,yh,sj,si,Int.add_assoc,Int.reduceAdd]
    congr 1;omega
theorem Sz (k:Int) (h0:0<=k):∀n:Nat,k+1*(n:Int)<=4611686018427387904->∀f,hE (ou n k) k f=f (k+1*(n:Int))
  |
    0,_,f=>by
    show f k=_
    congr 1;omega
  |n+1,h,f=>by
    have e:ou (n+1) k=ou n k++[ye (k+1*(n:Int))]:=by
      unfold ou;rw [List.range_succ,List.map_append];rfl
    rw [e,yu,Sz k h0 n (by omega)]
    show gW.he (ye (k+1*(n:Int))) (k+1*(n:Int)) f=_
    generalize bZ:k+1*(n:Int)=j
    simp (disch:=first|omega|rfl) only [Eo,ye,sj,si,Int.add_assoc,Int.reduceAdd]
    congr 1;omega
theorem SD (k:Int) (h0:0<=k):∀n:Nat,k+2*(n:Int)<=4611686018427387904->∀f,hE (nQ n k) k f=f (k+2*(n:Int))
  |
    0,_,f=>by
    show f k=_
    congr 1;omega
  |n+1,h,f=>by
    have e:nQ (n+1) k=nQ n k++[yi (k+2*(n:Int))]:=by
      unfold nQ;rw [List.range_succ,List.map_append];rfl
    rw [e,yu,SD k h0 n (by omega)]
    show gW.he (yi (k+2*(n:Int))) (k+2*(n:Int)) f=_
    generalize bZ:k+2*(n:Int)=j
    simp (disch:=first|omega|rfl) only [Ew,yi,sj,si,Int.add_assoc,Int.reduceAdd]
    congr 1;omega
theorem SA (k:Int) (h0:0<=k):∀n:Nat,k+4*(n:Int)<=4611686018427387904->∀f,hE (mo n k) k f=f (k+4*(n:Int))
  |
    0,_,f=>by
    show f k=_
    congr 1;omega
  |n+1,h,f=>by
    have e:mo (n+1) k=mo n k++[yf (k+4*(n:Int))]:=by
      unfold mo;rw [List.range_succ,List.map_append];rfl
    rw [e,yu,SA k h0 n (by omega)]
    show gW.he (yf (k+4*(n:Int))) (k+4*(n:Int)) f=_
    generalize bZ:k+4*(n:Int)=j
    simp (disch:=first|omega|rfl) only [Ep,yf,sj,si,Int.add_assoc,Int.reduceAdd]
    congr 1;omega
theorem SB (k:Int) (h0:0<=k):∀n:Nat,k+2*(n:Int)<=4611686018427387904->∀f,hE (nP n k) k f=f (k+2*(n:Int))
  |
    0,_,f=>by
    show f k=_
    congr 1;omega
  |n+1,h,f=>by
    have e:nP (n+1) k=nP n k++[yg (k+2*(n:Int))]:=by
      unfold nP;rw [List.range_succ,List.map_append];rfl
    rw [e,yu,SB k h0 n (by omega)]
    show gW.he (yg (k+2*(n:Int))) (k+2*(n:Int)) f=_
    generalize bZ:k+2*(n:Int)=j
    simp (disch:=first|omega|rfl) only [Es,yg,sj,si,Int.add_assoc,Int.reduceAdd]
    congr 1;omega
section
variable {w0:World} {M:au} {u:World} {N:au}
theorem ad.focus {α β:Type} [GT α] [GT β] {xs:List α} {p:aD α} {F:au} (o:ad w0 M u N F xs p) {k:Nat} (hk:k<xs.length) (get:α->β) (nw:GT.Ptr α->GT.Ptr β) (set:α->β->α) (pK:GT.Ptr α->GT.Ptr β->GT.Ptr α)
    (AX:∀(G:au) (u:World) (x:α) (r:GT.Ptr α),GT.own b6 G u x r->∃H:au,GT.own b6 H u (get x) (nw r)/\(∀b,H b->G b)/\∀(bI:World) (y:β) (q:GT.Ptr β),GT.own b6 H bI y q->(∀b,G b->¬H b->bI.heap[b]? =u.heap[b]?)->GT.cells y q=GT.cells (get x) (nw r)->GT.own b6 G bI (set x y) (pK r q)/\GT.cells (set x y) (pK r q)=GT.cells x r):
    ∃H:au,ad w0 M u N H (get (el xs k)) (nw (p.2 k))/\(∀b,H b->F b)/\∀(bI:World) (aB:au) (y:β) (q:GT.Ptr β),(∀b,N b->¬H b->aB b/\bI.heap[b]? =u.heap[b]?)->ad w0 M bI aB H y q->GT.cells y q=GT.cells (get (el xs k)) (nw (p.2 k))->
      ∃cx,ad w0 M bI aB F (xs.set k (set (el xs k) y)) (p.1,cx):=by
  have bN:g4 b6 F u xs p:=o.own
  obtain⟨G,cn,a8,b7⟩:=bN.el
  obtain⟨H,h1,an,aF⟩:=AX (G k) u (el xs k) (p.2 k) (cn k hk)
  have vn:∀b,H b->F b:=fun b hb=>(a8 k hk b (an b hb)).1
  refine⟨H,⟨h1,fun b hb=>o.sub b (vn b hb),fun b hb=>o.dM b (vn b hb)⟩,vn,fun bI aB y q up ua hc=>?_⟩
  have keep:∀b,F b->¬H b->bI.heap[b]? =u.heap[b]? :=fun b hb cY=>(up b (o.sub b hb) cY).2
  have vZ:=bN.cap
  have qj:p.1.nil=false:=bN.BK (by omega)
  have yJ:¬H p.1.b:=fun hb=>(a8 k hk _ (an _ hb)).2 rfl
  have yI:F p.1.b:=(bN.row qj).1
  obtain⟨hP,m2⟩:=aF bI y q ua.own (fun b hb cY=>keep b (a8 k hk b hb).1 cY) hc
  refine⟨fun i=>if i=k then pK (p.2 k) q else p.2 i,⟨?_,?_,o.dM⟩⟩
  · show g4 b6 F bI _ _
    refine⟨by rw [List.length_set];exact bN.le,by rw [List.length_set];exact bN.cap,bN.pe,bN.null,fun z=>⟨(bN.row z).1,?_⟩,fun i hi=>?_,G,fun i hi=>?_,?_,?_⟩
    · rw [keep _ yI yJ];exact(bN.row z).2
    · rw [List.length_set] at hi
      have oD:kW bI p.1.b (p.1.off+i*GT.width α) (GT.cells (el xs i) (p.2 i)):=(bN.cell i hi).uQ (keep _ yI yJ)
      by_cases e:i=k
      · subst e
        rw [dW hi]
        simp only [if_true]
        rw [m2];exact oD
      · rw [u_ e]
        simp only [if_neg e]
        exact oD
    · rw [List.length_set] at hi
      by_cases e:i=k
      · subst e
        rw [dW hi]
        simp only [if_true]
        exact hP
      · rw [u_ e]
        simp only [if_neg e]
        exact GT.b8 (cn i hi) fun b hb _=>keep b (a8 i hi b hb).1 fun bE=>b7 i k hi hk e b hb (an b bE)
    · intro i hi;rw [List.length_set] at hi;exact a8 i hi
    · intro i j hi bZ;rw [List.length_set] at hi bZ;exact b7 i j hi bZ
  · intro b hb
    by_cases bE:H b
    · exact ua.sub b bE
    · exact(up b (o.sub b hb) bE).1
theorem acd {β:Type} [GT β] {xs:List β} {p:aD β} {F:au} (o:ad w0 M u N F xs p) {k:Nat} (hk:k<xs.length):
    ∃
      H:au,ad w0 M u N H (el xs k) (p.2 k)/\(∀b,H b->F b)/\∀(bI:World) (aB:au) (y:β) (q:GT.Ptr β),(∀b,N b->¬H b->aB b/\bI.heap[b]? =u.heap[b]?)->ad w0 M bI aB H y q->GT.cells y q=GT.cells (el xs k) (p.2 k)->
      ∃cx,ad w0 M bI aB F (xs.set k y) (p.1,cx):=
  o.focus hk (fun x=>x) (fun r=>r) (fun _ y=>y) (fun _ q=>q) fun G u x r h=>⟨G,h,fun _ z=>z,fun _ _ _ cl _ hc=>⟨cl,hc⟩⟩
theorem ab4 {xs:List bS} {p:aD bS} {F:au} (o:ad w0 M u N F xs p) {k:Nat} (hk:k<xs.length):
    ∃
      H:au,ad w0 M u N H (el xs k).known (p.2 k).known/\(∀b,H b->F b)/\∀(bI:World) (aB:au) (y:List Bool) (q:GT.Ptr (List Bool)),(∀b,N b->¬H b->aB b/\bI.heap[b]? =u.heap[b]?)->ad w0 M bI aB H y q->GT.cells y q=GT.cells (el xs k).known (p.2 k).known->
      ∃cx,ad w0 M bI aB F (xs.set k {el xs k with known:=y}) (p.1,cx):=
  o.focus hk (fun x=>x.known) (fun r=>r.known) (fun x y=>{x with known:=y}) (fun r q=>{r with known:=q}) fun G u x r h=>by
    obtain⟨cH,cF,dx,cn,s⟩:=h
    refine⟨cH,dx,s.sub _ (by simp),fun bI y q cl hw hc=>⟨⟨cH,cF,cl,GT.b8 cn fun b hb _=>hw b (s.sub _ (by simp) b hb) fun bE=>(cz s.cr (i:=0) (j:=1) (by decide) rfl rfl) b bE hb,s⟩,?_⟩⟩
    have e:=(List.cons.inj hc).1
    show [R y.length q.1,R x.aZ.length r.aZ.1]=[R x.known.length r.known.1,R x.aZ.length r.aZ.1]
    rw [e]
theorem ab5 {xs:List bS} {p:aD bS} {F:au} (o:ad w0 M u N F xs p) {k:Nat} (hk:k<xs.length):
    ∃
      H:au,ad w0 M u N H (el xs k).aZ (p.2 k).aZ/\(∀b,H b->F b)/\∀(bI:World) (aB:au) (y:List aR) (q:GT.Ptr (List aR)),(∀b,N b->¬H b->aB b/\bI.heap[b]? =u.heap[b]?)->ad w0 M bI aB H y q->GT.cells y q=GT.cells (el xs k).aZ (p.2 k).aZ->
      ∃cx,ad w0 M bI aB F (xs.set k {el xs k with aZ:=y}) (p.1,cx):=
  o.focus hk (fun x=>x.aZ) (fun r=>r.aZ) (fun x y=>{x with aZ:=y}) (fun r q=>{r with aZ:=q}) fun G u x r h=>by
    obtain⟨cH,cF,dx,cn,s⟩:=h
    refine⟨cF,cn,s.sub _ (by simp),fun bI y q cl hw hc=>⟨⟨cH,cF,GT.b8 dx fun b hb _=>hw b (s.sub _ (by simp) b hb) fun bE=>(cz s.cr (i:=0) (j:=1) (by decide) rfl rfl) b hb bE,cl,s⟩,?_⟩⟩
    have e:=(List.cons.inj hc).1
    show [R x.known.length r.known.1,R y.length q.1]=[R x.known.length r.known.1,R x.aZ.length r.aZ.1]
    rw [e]
theorem ab1 {xs:List ax} {p:aD ax} {F:au} (o:ad w0 M u N F xs p) {k:Nat} (hk:k<xs.length):
    ∃
      H:au,ad w0 M u N H (el xs k).prog (p.2 k).prog/\(∀b,H b->F b)/\∀(bI:World) (aB:au) (y:List da) (q:GT.Ptr (List da)),(∀b,N b->¬H b->aB b/\bI.heap[b]? =u.heap[b]?)->ad w0 M bI aB H y q->GT.cells y q=GT.cells (el xs k).prog (p.2 k).prog->
      ∃cx,ad w0 M bI aB F (xs.set k {el xs k with prog:=y}) (p.1,cx):=
  o.focus hk (fun x=>x.prog) (fun r=>r.prog) (fun x y=>{x with prog:=y}) (fun r q=>{r with prog:=q}) fun G u x r h=>by
    obtain⟨cH,cF,cU,c1,dx,cn,a8,b7,s,f0,f1,f2,f3,f4⟩:=h
    refine⟨cH,dx,s.sub _ (by simp),fun bI y q cl hw hc=>⟨⟨cH,cF,cU,c1,cl,GT.b8 cn fun b hb _=>hw b (s.sub _ (by simp) b hb) fun bE=>(cz s.cr (i:=0) (j:=1) (by decide) rfl rfl) b bE hb,GT.b8 a8 fun b hb _=>hw b (s.sub _ (by simp) b hb) fun bE=>(cz s.cr (i:=0) (j:=2) (by decide) rfl rfl) b bE hb,GT.b8 b7 fun b hb _=>hw b (s.sub _ (by simp) b hb) fun bE=>(cz s.cr (i:=0) (j:=3) (by decide) rfl rfl) b bE hb,s,f0,f1,f2,f3,f4⟩,?_⟩⟩
    have e:=(List.cons.inj hc).1
    show [R y.length q.1,aa x.acc,aa x.aw,R x.written.length r.written.1,R x.live.length r.live.1,aa x.aN.aY,aa x.aN.post,B x.aN.e4,aa x.aC,aa x.exit.kind,aa x.exit.page,B x.exit.wr,aa x.exit.n,B x.halted,R x.seen.length r.seen.1]=[R x.prog.length r.prog.1,aa x.acc,aa x.aw,R x.written.length r.written.1,R x.live.length r.live.1,aa x.aN.aY,aa x.aN.post,B x.aN.e4,aa x.aC,aa x.exit.kind,aa x.exit.page,B x.exit.wr,aa x.exit.n,B x.halted,R x.seen.length r.seen.1]
    rw [e]
theorem ab3 {xs:List ax} {p:aD ax} {F:au} (o:ad w0 M u N F xs p) {k:Nat} (hk:k<xs.length):
    ∃
      H:au,ad w0 M u N H (el xs k).written (p.2 k).written/\(∀b,H b->F b)/\∀(bI:World) (aB:au) (y:List aR) (q:GT.Ptr (List aR)),(∀b,N b->¬H b->aB b/\bI.heap[b]? =u.heap[b]?)->ad w0 M bI aB H y q->GT.cells y q=GT.cells (el xs k).written (p.2 k).written->
      ∃cx,ad w0 M bI aB F (xs.set k {el xs k with written:=y}) (p.1,cx):=
  o.focus hk (fun x=>x.written) (fun r=>r.written) (fun x y=>{x with written:=y}) (fun r q=>{r with written:=q}) fun G u x r h=>by
    obtain⟨cH,cF,cU,c1,dx,cn,a8,b7,s,f0,f1,f2,f3,f4⟩:=h
    refine⟨cF,cn,s.sub _ (by simp),fun bI y q cl hw hc=>⟨⟨cH,cF,cU,c1,GT.b8 dx fun b hb _=>hw b (s.sub _ (by simp) b hb) fun bE=>(cz s.cr (i:=0) (j:=1) (by decide) rfl rfl) b hb bE,cl,GT.b8 a8 fun b hb _=>hw b (s.sub _ (by simp) b hb) fun bE=>(cz s.cr (i:=1) (j:=2) (by decide) rfl rfl) b bE hb,GT.b8 b7 fun b hb _=>hw b (s.sub _ (by simp) b hb) fun bE=>(cz s.cr (i:=1) (j:=3) (by decide) rfl rfl) b bE hb,s,f0,f1,f2,f3,f4⟩,?_⟩⟩
    have e:=(List.cons.inj hc).1
    show [R x.prog.length r.prog.1,aa x.acc,aa x.aw,R y.length q.1,R x.live.length r.live.1,aa x.aN.aY,aa x.aN.post,B x.aN.e4,aa x.aC,aa x.exit.kind,aa x.exit.page,B x.exit.wr,aa x.exit.n,B x.halted,R x.seen.length r.seen.1]=[R x.prog.length r.prog.1,aa x.acc,aa x.aw,R x.written.length r.written.1,R x.live.length r.live.1,aa x.aN.aY,aa x.aN.post,B x.aN.e4,aa x.aC,aa x.exit.kind,aa x.exit.page,B x.exit.wr,aa x.exit.n,B x.halted,R x.seen.length r.seen.1]
    rw [e]
theorem ab0 {xs:List ax} {p:aD ax} {F:au} (o:ad w0 M u N F xs p) {k:Nat} (hk:k<xs.length):
    ∃
      H:au,ad w0 M u N H (el xs k).live (p.2 k).live/\(∀b,H b->F b)/\∀(bI:World) (aB:au) (y:List aR) (q:GT.Ptr (List aR)),(∀b,N b->¬H b->aB b/\bI.heap[b]? =u.heap[b]?)->ad w0 M bI aB H y q->GT.cells y q=GT.cells (el xs k).live (p.2 k).live->
      ∃cx,ad w0 M bI aB F (xs.set k {el xs k with live:=y}) (p.1,cx):=
  o.focus hk (fun x=>x.live) (fun r=>r.live) (fun x y=>{x with live:=y}) (fun r q=>{r with live:=q}) fun G u x r h=>by
    obtain⟨cH,cF,cU,c1,dx,cn,a8,b7,s,f0,f1,f2,f3,f4⟩:=h
    refine⟨cU,a8,s.sub _ (by simp),fun bI y q cl hw hc=>⟨⟨cH,cF,cU,c1,GT.b8 dx fun b hb _=>hw b (s.sub _ (by simp) b hb) fun bE=>(cz s.cr (i:=0) (j:=2) (by decide) rfl rfl) b hb bE,GT.b8 cn fun b hb _=>hw b (s.sub _ (by simp) b hb) fun bE=>(cz s.cr (i:=1) (j:=2) (by decide) rfl rfl) b hb bE,cl,GT.b8 b7 fun b hb _=>hw b (s.sub _ (by simp) b hb) fun bE=>(cz s.cr (i:=2) (j:=3) (by decide) rfl rfl) b bE hb,s,f0,f1,f2,f3,f4⟩,?_⟩⟩
    have e:=(List.cons.inj hc).1
    show [R x.prog.length r.prog.1,aa x.acc,aa x.aw,R x.written.length r.written.1,R y.length q.1,aa x.aN.aY,aa x.aN.post,B x.aN.e4,aa x.aC,aa x.exit.kind,aa x.exit.page,B x.exit.wr,aa x.exit.n,B x.halted,R x.seen.length r.seen.1]=[R x.prog.length r.prog.1,aa x.acc,aa x.aw,R x.written.length r.written.1,R x.live.length r.live.1,aa x.aN.aY,aa x.aN.post,B x.aN.e4,aa x.aC,aa x.exit.kind,aa x.exit.page,B x.exit.wr,aa x.exit.n,B x.halted,R x.seen.length r.seen.1]
    rw [e]
theorem ab2 {xs:List ax} {p:aD ax} {F:au} (o:ad w0 M u N F xs p) {k:Nat} (hk:k<xs.length):
    ∃
      H:au,ad w0 M u N H (el xs k).seen (p.2 k).seen/\(∀b,H b->F b)/\∀(bI:World) (aB:au) (y:List Int) (q:GT.Ptr (List Int)),(∀b,N b->¬H b->aB b/\bI.heap[b]? =u.heap[b]?)->ad w0 M bI aB H y q->GT.cells y q=GT.cells (el xs k).seen (p.2 k).seen->
      ∃cx,ad w0 M bI aB F (xs.set k {el xs k with seen:=y}) (p.1,cx):=
  o.focus hk (fun x=>x.seen) (fun r=>r.seen) (fun x y=>{x with seen:=y}) (fun r q=>{r with seen:=q}) fun G u x r h=>by
    obtain⟨cH,cF,cU,c1,dx,cn,a8,b7,s,f0,f1,f2,f3,f4⟩:=h
    refine⟨c1,b7,s.sub _ (by simp),fun bI y q cl hw hc=>⟨⟨cH,cF,cU,c1,GT.b8 dx fun b hb _=>hw b (s.sub _ (by simp) b hb) fun bE=>(cz s.cr (i:=0) (j:=3) (by decide) rfl rfl) b hb bE,GT.b8 cn fun b hb _=>hw b (s.sub _ (by simp) b hb) fun bE=>(cz s.cr (i:=1) (j:=3) (by decide) rfl rfl) b hb bE,GT.b8 a8 fun b hb _=>hw b (s.sub _ (by simp) b hb) fun bE=>(cz s.cr (i:=2) (j:=3) (by decide) rfl rfl) b hb bE,cl,s,f0,f1,f2,f3,f4⟩,?_⟩⟩
    have e:=(List.cons.inj hc).1
    show [R x.prog.length r.prog.1,aa x.acc,aa x.aw,R x.written.length r.written.1,R x.live.length r.live.1,aa x.aN.aY,aa x.aN.post,B x.aN.e4,aa x.aC,aa x.exit.kind,aa x.exit.page,B x.exit.wr,aa x.exit.n,B x.halted,R y.length q.1]=[R x.prog.length r.prog.1,aa x.acc,aa x.aw,R x.written.length r.written.1,R x.live.length r.live.1,aa x.aN.aY,aa x.aN.post,B x.aN.e4,aa x.aC,aa x.exit.kind,aa x.exit.page,B x.exit.wr,aa x.exit.n,B x.halted,R x.seen.length r.seen.1]
    rw [e]
theorem aiS {K:Nat} {G:au} {u:World} {x:ax} {p:c5} {v:Int} (h:GT.own K G u x p) (b2:a_ v):GT.own K G u ({x with acc:=v}:ax) p:=by
  obtain⟨cH,cF,cU,c1,dx,cn,a8,b7,s,f0,f1,f2,f3,f4⟩:=h
  exact⟨cH,cF,cU,c1,dx,cn,a8,b7,s,b2,f1,f2,f3,f4⟩
theorem aiU {K:Nat} {G:au} {u:World} {x:ax} {p:c5} {v:Int} (h:GT.own K G u x p) (b2:a_ v):GT.own K G u ({x with aw:=v}:ax) p:=by
  obtain⟨cH,cF,cU,c1,dx,cn,a8,b7,s,f0,f1,f2,f3,f4⟩:=h
  exact⟨cH,cF,cU,c1,dx,cn,a8,b7,s,f0,b2,f2,f3,f4⟩
theorem MA {K:Nat} {G:au} {u:World} {x:ax} {p:c5} {v:fy} (h:GT.own K G u x p) (b2:hz v):GT.own K G u ({x with aN:=v}:ax) p:=by
  obtain⟨cH,cF,cU,c1,dx,cn,a8,b7,s,f0,f1,f2,f3,f4⟩:=h
  exact⟨cH,cF,cU,c1,dx,cn,a8,b7,s,f0,f1,b2,f3,f4⟩
theorem aiV {K:Nat} {G:au} {u:World} {x:ax} {p:c5} {v:Int} (h:GT.own K G u x p) (b2:a_ v):GT.own K G u ({x with aC:=v}:ax) p:=by
  obtain⟨cH,cF,cU,c1,dx,cn,a8,b7,s,f0,f1,f2,f3,f4⟩:=h
  exact⟨cH,cF,cU,c1,dx,cn,a8,b7,s,f0,f1,f2,b2,f4⟩
theorem FX {K:Nat} {G:au} {u:World} {x:ax} {p:c5} {v:dg} (h:GT.own K G u x p) (b2:fL v):GT.own K G u ({x with exit:=v}:ax) p:=by
  obtain⟨cH,cF,cU,c1,dx,cn,a8,b7,s,f0,f1,f2,f3,f4⟩:=h
  exact⟨cH,cF,cU,c1,dx,cn,a8,b7,s,f0,f1,f2,f3,b2⟩
theorem aiT {K:Nat} {G:au} {u:World} {x:ax} {p:c5} {v:Bool} (h:GT.own K G u x p):GT.own K G u ({x with halted:=v}:ax) p:=by
  obtain⟨cH,cF,cU,c1,dx,cn,a8,b7,s,f0,f1,f2,f3,f4⟩:=h
  exact⟨cH,cF,cU,c1,dx,cn,a8,b7,s,f0,f1,f2,f3,f4⟩
theorem ab9 {xs:List aO} {p:aD aO} {F:au} (o:ad w0 M u N F xs p) {k:Nat} (hk:k<xs.length):
    ∃
      H:au,ad w0 M u N H (el xs k).outer (p.2 k).outer/\(∀b,H b->F b)/\∀(bI:World) (aB:au) (y:List aR) (q:GT.Ptr (List aR)),(∀b,N b->¬H b->aB b/\bI.heap[b]? =u.heap[b]?)->ad w0 M bI aB H y q->GT.cells y q=GT.cells (el xs k).outer (p.2 k).outer->
      ∃cx,ad w0 M bI aB F (xs.set k {el xs k with outer:=y}) (p.1,cx):=
  o.focus hk (fun x=>x.outer) (fun r=>r.outer) (fun x y=>{x with outer:=y}) (fun r q=>{r with outer:=q}) fun G u x r h=>by
    obtain⟨cH,cF,cU,c1,eI,eX,dx,cn,a8,b7,cC,dJ,s,f0,f1,f2⟩:=h
    refine⟨cH,dx,s.sub _ (by simp),fun bI y q cl hw hc=>⟨⟨cH,cF,cU,c1,eI,eX,cl,GT.b8 cn fun b hb _=>hw b (s.sub _ (by simp) b hb) fun bE=>(cz s.cr (i:=0) (j:=1) (by decide) rfl rfl) b bE hb,GT.b8 a8 fun b hb _=>hw b (s.sub _ (by simp) b hb) fun bE=>(cz s.cr (i:=0) (j:=2) (by decide) rfl rfl) b bE hb,GT.b8 b7 fun b hb _=>hw b (s.sub _ (by simp) b hb) fun bE=>(cz s.cr (i:=0) (j:=3) (by decide) rfl rfl) b bE hb,GT.b8 cC fun b hb _=>hw b (s.sub _ (by simp) b hb) fun bE=>(cz s.cr (i:=0) (j:=4) (by decide) rfl rfl) b bE hb,GT.b8 dJ fun b hb _=>hw b (s.sub _ (by simp) b hb) fun bE=>(cz s.cr (i:=0) (j:=5) (by decide) rfl rfl) b bE hb,s,f0,f1,f2⟩,?_⟩⟩
    have e:=(List.cons.inj hc).1
    show [R y.length q.1,R x.out.length r.out.1,R x.aT.length r.aT.1,R x.U.length r.U.1,R x.outs.length r.outs.1,aa x.aC,aa x.aY,R x.tables.length r.tables.1,aa x.owned]=[R x.outer.length r.outer.1,R x.out.length r.out.1,R x.aT.length r.aT.1,R x.U.length r.U.1,R x.outs.length r.outs.1,aa x.aC,aa x.aY,R x.tables.length r.tables.1,aa x.owned]
    rw [e]
theorem ab8 {xs:List aO} {p:aD aO} {F:au} (o:ad w0 M u N F xs p) {k:Nat} (hk:k<xs.length):
    ∃
      H:au,ad w0 M u N H (el xs k).out (p.2 k).out/\(∀b,H b->F b)/\∀(bI:World) (aB:au) (y:List (List Int)) (q:GT.Ptr (List (List Int))),(∀b,N b->¬H b->aB b/\bI.heap[b]? =u.heap[b]?)->ad w0 M bI aB H y q->GT.cells y q=GT.cells (el xs k).out (p.2 k).out->
      ∃cx,ad w0 M bI aB F (xs.set k {el xs k with out:=y}) (p.1,cx):=
  o.focus hk (fun x=>x.out) (fun r=>r.out) (fun x y=>{x with out:=y}) (fun r q=>{r with out:=q}) fun G u x r h=>by
    obtain⟨cH,cF,cU,c1,eI,eX,dx,cn,a8,b7,cC,dJ,s,f0,f1,f2⟩:=h
    refine⟨cF,cn,s.sub _ (by simp),fun bI y q cl hw hc=>⟨⟨cH,cF,cU,c1,eI,eX,GT.b8 dx fun b hb _=>hw b (s.sub _ (by simp) b hb) fun bE=>(cz s.cr (i:=0) (j:=1) (by decide) rfl rfl) b hb bE,cl,GT.b8 a8 fun b hb _=>hw b (s.sub _ (by simp) b hb) fun bE=>(cz s.cr (i:=1) (j:=2) (by decide) rfl rfl) b bE hb,GT.b8 b7 fun b hb _=>hw b (s.sub _ (by simp) b hb) fun bE=>(cz s.cr (i:=1) (j:=3) (by decide) rfl rfl) b bE hb,GT.b8 cC fun b hb _=>hw b (s.sub _ (by simp) b hb) fun bE=>(cz s.cr (i:=1) (j:=4) (by decide) rfl rfl) b bE hb,GT.b8 dJ fun b hb _=>hw b (s.sub _ (by simp) b hb) fun bE=>(cz s.cr (i:=1) (j:=5) (by decide) rfl rfl) b bE hb,s,f0,f1,f2⟩,?_⟩⟩
    have e:=(List.cons.inj hc).1
    show [R x.outer.length r.outer.1,R y.length q.1,R x.aT.length r.aT.1,R x.U.length r.U.1,R x.outs.length r.outs.1,aa x.aC,aa x.aY,R x.tables.length r.tables.1,aa x.owned]=[R x.outer.length r.outer.1,R x.out.length r.out.1,R x.aT.length r.aT.1,R x.U.length r.U.1,R x.outs.length r.outs.1,aa x.aC,aa x.aY,R x.tables.length r.tables.1,aa x.owned]
    rw [e]
theorem ab6 {xs:List aO} {p:aD aO} {F:au} (o:ad w0 M u N F xs p) {k:Nat} (hk:k<xs.length):
    ∃
      H:au,ad w0 M u N H (el xs k).aT (p.2 k).aT/\(∀b,H b->F b)/\∀(bI:World) (aB:au) (y:List Bool) (q:GT.Ptr (List Bool)),(∀b,N b->¬H b->aB b/\bI.heap[b]? =u.heap[b]?)->ad w0 M bI aB H y q->GT.cells y q=GT.cells (el xs k).aT (p.2 k).aT->
      ∃cx,ad w0 M bI aB F (xs.set k {el xs k with aT:=y}) (p.1,cx):=
  o.focus hk (fun x=>x.aT) (fun r=>r.aT) (fun x y=>{x with aT:=y}) (fun r q=>{r with aT:=q}) fun G u x r h=>by
    obtain⟨cH,cF,cU,c1,eI,eX,dx,cn,a8,b7,cC,dJ,s,f0,f1,f2⟩:=h
    refine⟨cU,a8,s.sub _ (by simp),fun bI y q cl hw hc=>⟨⟨cH,cF,cU,c1,eI,eX,GT.b8 dx fun b hb _=>hw b (s.sub _ (by simp) b hb) fun bE=>(cz s.cr (i:=0) (j:=2) (by decide) rfl rfl) b hb bE,GT.b8 cn fun b hb _=>hw b (s.sub _ (by simp) b hb) fun bE=>(cz s.cr (i:=1) (j:=2) (by decide) rfl rfl) b hb bE,cl,GT.b8 b7 fun b hb _=>hw b (s.sub _ (by simp) b hb) fun bE=>(cz s.cr (i:=2) (j:=3) (by decide) rfl rfl) b bE hb,GT.b8 cC fun b hb _=>hw b (s.sub _ (by simp) b hb) fun bE=>(cz s.cr (i:=2) (j:=4) (by decide) rfl rfl) b bE hb,GT.b8 dJ fun b hb _=>hw b (s.sub _ (by simp) b hb) fun bE=>(cz s.cr (i:=2) (j:=5) (by decide) rfl rfl) b bE hb,s,f0,f1,f2⟩,?_⟩⟩
    have e:=(List.cons.inj hc).1
    show [R x.outer.length r.outer.1,R x.out.length r.out.1,R y.length q.1,R x.U.length r.U.1,R x.outs.length r.outs.1,aa x.aC,aa x.aY,R x.tables.length r.tables.1,aa x.owned]=[R x.outer.length r.outer.1,R x.out.length r.out.1,R x.aT.length r.aT.1,R x.U.length r.U.1,R x.outs.length r.outs.1,aa x.aC,aa x.aY,R x.tables.length r.tables.1,aa x.owned]
    rw [e]
theorem ab7 {xs:List aO} {p:aD aO} {F:au} (o:ad w0 M u N F xs p) {k:Nat} (hk:k<xs.length):
    ∃
      H:au,ad w0 M u N H (el xs k).U (p.2 k).U/\(∀b,H b->F b)/\∀(bI:World) (aB:au) (y:List ax) (q:GT.Ptr (List ax)),(∀b,N b->¬H b->aB b/\bI.heap[b]? =u.heap[b]?)->ad w0 M bI aB H y q->GT.cells y q=GT.cells (el xs k).U (p.2 k).U->
      ∃cx,ad w0 M bI aB F (xs.set k {el xs k with U:=y}) (p.1,cx):=
  o.focus hk (fun x=>x.U) (fun r=>r.U) (fun x y=>{x with U:=y}) (fun r q=>{r with U:=q}) fun G u x r h=>by
    obtain⟨cH,cF,cU,c1,eI,eX,dx,cn,a8,b7,cC,dJ,s,f0,f1,f2⟩:=h
    refine⟨c1,b7,s.sub _ (by simp),fun bI y q cl hw hc=>⟨⟨cH,cF,cU,c1,eI,eX,GT.b8 dx fun b hb _=>hw b (s.sub _ (by simp) b hb) fun bE=>(cz s.cr (i:=0) (j:=3) (by decide) rfl rfl) b hb bE,GT.b8 cn fun b hb _=>hw b (s.sub _ (by simp) b hb) fun bE=>(cz s.cr (i:=1) (j:=3) (by decide) rfl rfl) b hb bE,GT.b8 a8 fun b hb _=>hw b (s.sub _ (by simp) b hb) fun bE=>(cz s.cr (i:=2) (j:=3) (by decide) rfl rfl) b hb bE,cl,GT.b8 cC fun b hb _=>hw b (s.sub _ (by simp) b hb) fun bE=>(cz s.cr (i:=3) (j:=4) (by decide) rfl rfl) b bE hb,GT.b8 dJ fun b hb _=>hw b (s.sub _ (by simp) b hb) fun bE=>(cz s.cr (i:=3) (j:=5) (by decide) rfl rfl) b bE hb,s,f0,f1,f2⟩,?_⟩⟩
    have e:=(List.cons.inj hc).1
    show [R x.outer.length r.outer.1,R x.out.length r.out.1,R x.aT.length r.aT.1,R y.length q.1,R x.outs.length r.outs.1,aa x.aC,aa x.aY,R x.tables.length r.tables.1,aa x.owned]=[R x.outer.length r.outer.1,R x.out.length r.out.1,R x.aT.length r.aT.1,R x.U.length r.U.1,R x.outs.length r.outs.1,aa x.aC,aa x.aY,R x.tables.length r.tables.1,aa x.owned]
    rw [e]
theorem ab_ {xs:List aO} {p:aD aO} {F:au} (o:ad w0 M u N F xs p) {k:Nat} (hk:k<xs.length):
    ∃
      H:au,ad w0 M u N H (el xs k).outs (p.2 k).outs/\(∀b,H b->F b)/\∀(bI:World) (aB:au) (y:List Int) (q:GT.Ptr (List Int)),(∀b,N b->¬H b->aB b/\bI.heap[b]? =u.heap[b]?)->ad w0 M bI aB H y q->GT.cells y q=GT.cells (el xs k).outs (p.2 k).outs->
      ∃cx,ad w0 M bI aB F (xs.set k {el xs k with outs:=y}) (p.1,cx):=
  o.focus hk (fun x=>x.outs) (fun r=>r.outs) (fun x y=>{x with outs:=y}) (fun r q=>{r with outs:=q}) fun G u x r h=>by
    obtain⟨cH,cF,cU,c1,eI,eX,dx,cn,a8,b7,cC,dJ,s,f0,f1,f2⟩:=h
    refine⟨eI,cC,s.sub _ (by simp),fun bI y q cl hw hc=>⟨⟨cH,cF,cU,c1,eI,eX,GT.b8 dx fun b hb _=>hw b (s.sub _ (by simp) b hb) fun bE=>(cz s.cr (i:=0) (j:=4) (by decide) rfl rfl) b hb bE,GT.b8 cn fun b hb _=>hw b (s.sub _ (by simp) b hb) fun bE=>(cz s.cr (i:=1) (j:=4) (by decide) rfl rfl) b hb bE,GT.b8 a8 fun b hb _=>hw b (s.sub _ (by simp) b hb) fun bE=>(cz s.cr (i:=2) (j:=4) (by decide) rfl rfl) b hb bE,GT.b8 b7 fun b hb _=>hw b (s.sub _ (by simp) b hb) fun bE=>(cz s.cr (i:=3) (j:=4) (by decide) rfl rfl) b hb bE,cl,GT.b8 dJ fun b hb _=>hw b (s.sub _ (by simp) b hb) fun bE=>(cz s.cr (i:=4) (j:=5) (by decide) rfl rfl) b bE hb,s,f0,f1,f2⟩,?_⟩⟩
    have e:=(List.cons.inj hc).1
    show [R x.outer.length r.outer.1,R x.out.length r.out.1,R x.aT.length r.aT.1,R x.U.length r.U.1,R y.length q.1,aa x.aC,aa x.aY,R x.tables.length r.tables.1,aa x.owned]=[R x.outer.length r.outer.1,R x.out.length r.out.1,R x.aT.length r.aT.1,R x.U.length r.U.1,R x.outs.length r.outs.1,aa x.aC,aa x.aY,R x.tables.length r.tables.1,aa x.owned]
    rw [e]
theorem aca {xs:List aO} {p:aD aO} {F:au} (o:ad w0 M u N F xs p) {k:Nat} (hk:k<xs.length):
    ∃
      H:au,ad w0 M u N H (el xs k).tables (p.2 k).tables/\(∀b,H b->F b)/\∀(bI:World) (aB:au) (y:List bS) (q:GT.Ptr (List bS)),(∀b,N b->¬H b->aB b/\bI.heap[b]? =u.heap[b]?)->ad w0 M bI aB H y q->GT.cells y q=GT.cells (el xs k).tables (p.2 k).tables->
      ∃cx,ad w0 M bI aB F (xs.set k {el xs k with tables:=y}) (p.1,cx):=
  o.focus hk (fun x=>x.tables) (fun r=>r.tables) (fun x y=>{x with tables:=y}) (fun r q=>{r with tables:=q}) fun G u x r h=>by
    obtain⟨cH,cF,cU,c1,eI,eX,dx,cn,a8,b7,cC,dJ,s,f0,f1,f2⟩:=h
    refine⟨eX,dJ,s.sub _ (by simp),fun bI y q cl hw hc=>⟨⟨cH,cF,cU,c1,eI,eX,GT.b8 dx fun b hb _=>hw b (s.sub _ (by simp) b hb) fun bE=>(cz s.cr (i:=0) (j:=5) (by decide) rfl rfl) b hb bE,GT.b8 cn fun b hb _=>hw b (s.sub _ (by simp) b hb) fun bE=>(cz s.cr (i:=1) (j:=5) (by decide) rfl rfl) b hb bE,GT.b8 a8 fun b hb _=>hw b (s.sub _ (by simp) b hb) fun bE=>(cz s.cr (i:=2) (j:=5) (by decide) rfl rfl) b hb bE,GT.b8 b7 fun b hb _=>hw b (s.sub _ (by simp) b hb) fun bE=>(cz s.cr (i:=3) (j:=5) (by decide) rfl rfl) b hb bE,GT.b8 cC fun b hb _=>hw b (s.sub _ (by simp) b hb) fun bE=>(cz s.cr (i:=4) (j:=5) (by decide) rfl rfl) b hb bE,cl,s,f0,f1,f2⟩,?_⟩⟩
    have e:=(List.cons.inj hc).1
    show [R x.outer.length r.outer.1,R x.out.length r.out.1,R x.aT.length r.aT.1,R x.U.length r.U.1,R x.outs.length r.outs.1,aa x.aC,aa x.aY,R y.length q.1,aa x.owned]=[R x.outer.length r.outer.1,R x.out.length r.out.1,R x.aT.length r.aT.1,R x.U.length r.U.1,R x.outs.length r.outs.1,aa x.aC,aa x.aY,R x.tables.length r.tables.1,aa x.owned]
    rw [e]
theorem aiW {K:Nat} {G:au} {u:World} {x:aO} {p:ft} {v:Int} (h:GT.own K G u x p) (b2:a_ v):GT.own K G u ({x with aC:=v}:aO) p:=by
  obtain⟨cH,cF,cU,c1,eI,eX,dx,cn,a8,b7,cC,dJ,s,f0,f1,f2⟩:=h
  exact⟨cH,cF,cU,c1,eI,eX,dx,cn,a8,b7,cC,dJ,s,b2,f1,f2⟩
theorem aiX {K:Nat} {G:au} {u:World} {x:aO} {p:ft} {v:Int} (h:GT.own K G u x p) (b2:a_ v):GT.own K G u ({x with aY:=v}:aO) p:=by
  obtain⟨cH,cF,cU,c1,eI,eX,dx,cn,a8,b7,cC,dJ,s,f0,f1,f2⟩:=h
  exact⟨cH,cF,cU,c1,eI,eX,dx,cn,a8,b7,cC,dJ,s,f0,b2,f2⟩
theorem MB {K:Nat} {G:au} {u:World} {x:aO} {p:ft} {v:Int} (h:GT.own K G u x p) (b2:a_ v):GT.own K G u ({x with owned:=v}:aO) p:=by
  obtain⟨cH,cF,cU,c1,eI,eX,dx,cn,a8,b7,cC,dJ,s,f0,f1,f2⟩:=h
  exact⟨cH,cF,cU,c1,eI,eX,dx,cn,a8,b7,cC,dJ,s,f0,f1,b2⟩
theorem aaC {x y:ah} {p q:b_} (h0:GT.cells x.mem p.mem=GT.cells y.mem q.mem) (h1:GT.cells x.I p.I=GT.cells y.I q.I) (an:GT.cells x.buf p.buf=GT.cells y.buf q.buf) (aF:GT.cells x.ag p.ag=GT.cells y.ag q.ag):GT.cells x p=GT.cells y q:=by
  show [R x.mem.length p.mem.1,R x.I.length p.I.1,R x.buf.length p.buf.1,R x.ag.length p.ag.1]=[R y.mem.length q.mem.1,R y.I.length q.I.1,R y.buf.length q.buf.1,R y.ag.length q.ag.1]
  rw [(show R x.mem.length p.mem.1=R y.mem.length q.mem.1 from(List.cons.inj h0).1),(show R x.I.length p.I.1=R y.I.length q.I.1 from(List.cons.inj h1).1),(show R x.buf.length p.buf.1=R y.buf.length q.buf.1 from(List.cons.inj an).1),(show R x.ag.length p.ag.1=R y.ag.length q.ag.1 from(List.cons.inj aF).1)]
end
def og {α:Type} [GT α] [aS α] (hd:α->Int->Int) (F:au) (w:World) (p:GT.Ptr α) (x:α) (k:Int) (e:Ending) (w':World):Prop:=
  ∃(y:α) (fz:Int),e= .returned (aa fz)/\bB F w w'/\(∃p',GT.cells y p'=GT.cells x p/\GT.own b6 F w' y p')/\hd y k=fz/\k<=fz/\fz<=k+16*(aS.aW x:Nat)
section
variable {P:Program} {n:Nat} {w0:World} {M:au} {u:World} {N:au} {β:Nat->Nat} {σ:b3} {a:Act} {w:World} {ops:Array Oper} {dh:Act->World->Prop} {Q:Exit->Act->World->Prop}
theorem aj.aaz {α:Type} [GT α] [aS α] {hd:α->Int->Int} {F:au} {x:α} {p:GT.Ptr α} {k:Int} (S:aj P n w0 M u N β σ a w) (o:ad w0 M u N F x p) {i:Nat} {f:FuncId} {eN:List Value} {d:Tmp} (hc:Calls P f eN.toArray w (og hd F w p x k)) (hcall:kz P n ops i σ=some (f,eN,d)) (hd':Nat.blt d n=true)
    (K:∀a1 w' aB p' y fz,aj P n w0 M w' aB β ⟨(d,.v (aa fz))::σ.env,σ.aM⟩ a1 w'->(∀b,N b->¬F b->aB b/\w'.heap[b]? =u.heap[b]?)->ad w0 M w' aB F y p'->GT.cells y p'=GT.cells x p->hd y k=fz->k<=fz->fz<=k+16*(aS.aW x:Nat)->dh a1 w'):wpOp P ops Q i dh a w:=
  S.call hcall hc fun _ w' ⟨y,fz,he,fp,⟨p',bC,bN⟩,h1,an,aF⟩=>⟨_,he,K _ w' _ p' y fz ((S.qQ fp o.sub o.dM).put (wq hd') (fun _ _ e=>by cases e)) (S.bk fp) ⟨bN,fun b hb=> .inl (o.sub b hb),o.dM⟩ bC h1 an aF⟩
theorem rJ {α:Type} [GT α] [aS α] {hd:α->Int->Int} {F bU:au} {x y:α} {p p':GT.Ptr α} {k fz:Int} (S:aj P n w0 F u N β σ a w) (h:hd y k=fz) (h1:k<=fz) (an:fz<=k+16*(aS.aW x:Nat)) (hc:GT.cells y p'=GT.cells x p) (o:ad w0 F u N bU y p') (hs:∀b,bU b->F b):
    og hd F w0 p x k (.returned (packed [aa fz])) w:=
  ⟨y,fz,rfl,S.fu,⟨p',hc,GT.fO (GT.b8 o.own (fun b hb _=>(S.sep b (o.sub b hb)).2.1)) (Nat.le_refl _) hs⟩,h,h1,an⟩
end
class ee (α:Type) [GT α] [aS α] where
  B:Nat
  iT:∀{F:au} {w:World} {x:α} {p:GT.Ptr α},GT.rd b6 F w x p->aS.aW x<=B
instance:ee Int:=⟨0,fun _=>Nat.le_refl _⟩
instance:ee Bool:=⟨0,fun _=>Nat.le_refl _⟩
theorem NZ {α:Type} [GT α] [aS α] {m:Nat}:∀(xs:List α),(∀x,x∈xs->aS.aW x<=m)->(xs.map aS.aW).sum<=xs.length*m
  |
    [],_=>by simp
  |x::r,h=>by
    have:=NZ r fun y hy=>h y (List.mem_cons_of_mem _ hy)
    have:=h x List.mem_cons_self
    simp only [List.map_cons,List.sum_cons,List.length_cons,Nat.add_mul]
    omega
instance {α:Type} [GT α] [aS α] [b:ee α]:ee (List α):=⟨4194304+4194304*b.B,fun {F w x p} h=>by
  have h1:x.length<=4194304:=ae.le h
  have an:=NZ (m:=b.B) x fun y hy=>by
    obtain⟨i,hi,rfl⟩:=List.getElem_of_mem hy
    have:=ae.el h i hi
    rw [p_ hi] at this
    exact b.iT this
  have aF:x.length*b.B<=4194304*b.B:=Nat.mul_le_mul_right _ h1
  rw [nD]
  unfold hg
  omega⟩
instance:ee aR:=⟨0,fun _=>Nat.le_refl _⟩
instance:ee aH:=⟨0,fun _=>Nat.le_refl _⟩
instance:ee da:=⟨0,fun _=>Nat.le_refl _⟩
instance:ee fy:=⟨0,fun _=>Nat.le_refl _⟩
instance:ee dg:=⟨0,fun _=>Nat.le_refl _⟩
instance:ee nH:=⟨0,fun _=>Nat.le_refl _⟩
instance:ee pW:=⟨0,fun _=>Nat.le_refl _⟩
instance:ee bS:=⟨ee.B (List Bool)+ee.B (List aR),fun {F w x p} h=>by
  have e:=Gu x
  have h0:=ee.iT (ey.known (d:=x) h)
  have h1:=ee.iT (ey.aZ (d:=x) h)
  omega⟩
instance:ee ax:=⟨ee.B (List da)+ee.B (List aR)+ee.B (List aR)+ee.B (List Int),fun {F w x p} h=>by
  have e:=zo x
  have h0:=ee.iT (az.prog (d:=x) h)
  have h1:=ee.iT (az.written (d:=x) h)
  have an:=ee.iT (az.live (d:=x) h)
  have aF:=ee.iT (az.seen (d:=x) h)
  omega⟩
instance:ee aO:=⟨ee.B (List aR)+ee.B (List (List Int))+ee.B (List Bool)+ee.B (List ax)+ee.B (List Int)+ee.B (List bS),fun {F w x p} h=>by
  have e:=uv x
  have h0:=ee.iT (aU.outer (d:=x) h)
  have h1:=ee.iT (aU.out (d:=x) h)
  have an:=ee.iT (aU.aT (d:=x) h)
  have aF:=ee.iT (aU.U (d:=x) h)
  have b1:=ee.iT (aU.outs (d:=x) h)
  have bm:=ee.iT (aU.tables (d:=x) h)
  omega⟩
instance:ee cP:=⟨ee.B (List (List Int))+ee.B (List ax)+ee.B (List Int),fun {F w x p} h=>by
  have e:=akA x
  have h0:=ee.iT (fK.mem (d:=x) h)
  have h1:=ee.iT (fK.U (d:=x) h)
  have an:=ee.iT (fK.outs (d:=x) h)
  omega⟩
instance:ee ah:=⟨ee.B (List (List Int))+ee.B (List aO)+ee.B (List aH)+ee.B (List aH),fun {F w x p} h=>by
  have e:=CR x
  have h0:=ee.iT (bu.mem (d:=x) h)
  have h1:=ee.iT (bu.I (d:=x) h)
  have an:=ee.iT (bu.buf (d:=x) h)
  have aF:=ee.iT (bu.ag (d:=x) h)
  omega⟩
end Go.Proofs.YtjlocpdfcanlhaaGreat
namespace Go.Proofs.YtjlocpdfcanlhaaGreat
open Go
set_option linter.unusedSimpArgs false
def mh.c_ (p:mh) (a w:Nat):mh:=⟨p.nil,p.b,bif p.cap==a then p.off else p.off+a*w,p.cap-a,p.rR⟩
section
variable {P:Program} {u:World} {N:au} {α:Type} [GT α] {xs:List α} {p:GT.Ptr (List α)}
theorem Dt {i y:Nat} (h:i<=y) (code:BoundsCode) (w:World):(Instr.sliceBound (aa i) y code).run P w= .ok i w:=by
  unfold Instr.sliceBound
  have:0<=(i:Int)/\(i:Int)<=y:=⟨by omega,by omega⟩
  simp only [asIntOf,Sem.run_bind,Sem.run_pure,Result.andThen_ok,this,and_self,if_true,Int.toNat_natCast]
theorem Yg {lo hi:Option Value} {a b n c:Nat} (yC:lo=none/\a=0\/lo=some (aa a)) (Ez:hi=none/\b=n\/hi=some (aa b)) (ki:a<=b) (hb:b<=n) (hc:n<=c) (w:World):
    (Instr.sliceBounds true n c lo hi none).run P w= .ok (a,b,c) w:=by
  unfold Instr.sliceBounds
  rcases yC with⟨rfl,rfl⟩|rfl<;>rcases Ez with⟨rfl,rfl⟩|rfl
  · simp [Sem.run_bind,Sem.run_pure]
  · simp [Sem.run_bind,Sem.run_pure,Dt (show b<=c by omega)]
  · simp [Sem.run_bind,Sem.run_pure,Dt ki]
  · simp [Sem.run_bind,Sem.run_pure,Dt (show b<=c by omega),Dt ki]
theorem Hq {K:Nat} (h:GT.rd K N u xs p) {t e:TypeId} {lo hi:Option Value} {a b l:Nat} (hl:l=xs.length) (yC:lo=none/\a=0\/lo=some (aa a)) (Ez:hi=none/\b=xs.length\/hi=some (aa b)) (ki:a<=b) (hb:b<=xs.length) (bx:P.underlying t=some (.slice e)) (he:jn P e=some (GT.width α)):
    g5 P u N (.ja (Instr.sliceAt t (R l p.1) lo hi none)) (R (b-a) (p.1.c_ a (GT.width α))):=fun w _=>by
  subst hl
  have vZ:=ae.cap h
  show(Instr.sliceAt t (.slice p.1.addr xs.length p.1.cap) lo hi none).run P w=_
  unfold Instr.sliceAt
  simp only [Sem.run_bind,run_underlying bx,Result.andThen_ok]
  unfold Instr.slice
  simp only [Sem.run_bind,run_underlying bx,Result.andThen_ok,Yg yC Ez ki hb vZ,zb he,Sem.run_pure]
  congr 2
  unfold mh.c_ mh.addr
  by_cases JF:p.1.cap=a
  · simp [JF]
  · have cu:(p.1.cap==a)=false:=by simpa using JF
    simp only [JF,if_false,cu,cond_false]
    cases cY:p.1.nil with
    |false=>simp [Addr.add_mid]
    |true=>
      have:xs.length=0:=by
        rcases Nat.eq_zero_or_pos xs.length with z|z
        · exact z
        · have:=(ae.at_ h z).1;rw [cY] at this;cases this
      have ay:a=0:=by omega
      subst ay
      cases p.1.rR<;>simp [Addr.add]
theorem Nt {K:Nat} (h:GT.rd K N u xs p) {a b:Nat} (ki:a<=b) (hb:b<=xs.length):GT.rd K N u ((xs.drop a).take (b-a)) ((p.1.c_ a (GT.width α),fun i=>p.2 (a+i)):aD α):=by
  have hlen:((xs.drop a).take (b-a)).length=b-a:=by simp;omega
  have ih:∀i,i<b-a->el ((xs.drop a).take (b-a)) i=el xs (a+i):=fun i hi=>by
    unfold el
    rw [List.getD_eq_getElem?_getD,List.getD_eq_getElem?_getD,List.getElem?_take_of_lt hi,List.getElem?_drop]
  have vZ:=ae.cap h
  have aew:=ae.at_ h
  refine⟨by have:=ae.le h;omega,by show _<=p.1.cap-a;omega,fun z=>?_,fun i hi=>?_,fun i hi=>?_⟩
  · exact aew (by omega)
  · rw [hlen] at hi
    rw [ih i hi]
    have cu:(p.1.cap==a)=false:=by simp;omega
    have:=ae.cell h (a+i) (by omega)
    show kW u p.1.b ((bif p.1.cap==a then p.1.off else p.1.off+a*GT.width α)+i*GT.width α) _
    rw [cu]
    simp only [cond_false]
    rw [Nat.add_assoc,←Nat.add_mul]
    exact this
  · rw [hlen] at hi
    rw [ih i hi]
    exact ae.el h (a+i) (by omega)
end
end Go.Proofs.YtjlocpdfcanlhaaGreat
namespace Go.Proofs.YtjlocpdfcanlhaaGreat
open Go
set_option linter.unusedVariables false
theorem n_ {F H cI Fy:au} {l:List au} (s:nG F l) {i:Nat} (hi:l[i]? =some H) (h1:∀b,cI b->H b\/Fy b) (hd:J F Fy):nG (Or F cI) (l.set i cI):=by
  have bE:∀b,H b->F b:=s.sub H (List.mem_of_getElem? hi)
  obtain⟨SN,SM⟩:=List.getElem?_eq_some_iff.1 hi
  refine⟨fun G cO b hb=>?_,?_⟩
  · rcases List.mem_or_eq_of_mem_set cO with h|rfl
    · exact Or.inl (s.sub G h b hb)
    · exact Or.inr hb
  · have key:∀j (bZ:j<l.length),j≠i->J (l[j]) cI:=fun j bZ kH b hb eU=>by
      rcases h1 b eU with h|h
      · rcases Nat.lt_or_gt_of_ne kH with eW|aeL
        · exact List.pairwise_iff_getElem.1 s.cr j i bZ SN eW b hb (SM▸h)
        · exact List.pairwise_iff_getElem.1 s.cr i j SN bZ aeL b (SM▸h) hb
      · exact hd b (s.sub _ (List.getElem_mem bZ) b hb) h
    rw [List.pairwise_iff_getElem]
    intro a c ay hc aep
    rw [List.length_set] at ay hc
    rw [List.getElem_set,List.getElem_set]
    by_cases cu:i=a
    · rw [if_pos cu,if_neg (by omega)]
      exact(key c hc (by omega)).symm
    · rw [if_neg cu]
      by_cases cB:i=c
      · rw [if_pos cB];exact key a ay (fun h=>cu h.symm)
      · rw [if_neg cB];exact List.pairwise_iff_getElem.1 s.cr a c ay hc aep
section
variable {w0:World} {M:au} {u:World} {N:au}
theorem ad.x7 {α β:Type} [GT α] [GT β] {xs:List α} {p:aD α} {F:au} (o:ad w0 M u N F xs p) {k:Nat} (hk:k<xs.length) (get:α->β) (nw:GT.Ptr α->GT.Ptr β) (set:α->β->α) (pK:GT.Ptr α->GT.Ptr β->GT.Ptr α)
    (AX:∀(G:au) (u:World) (x:α) (r:GT.Ptr α),GT.own b6 G u x r->∃H:au,GT.own b6 H u (get x) (nw r)/\(∀b,H b->G b)/\∀(bI:World) (y:β) (q:GT.Ptr β) (cI Fy:au),GT.own b6 cI bI y q->(∀b,cI b->H b\/Fy b)->J G Fy->(∀b,G b->¬H b->bI.heap[b]? =u.heap[b]?)->GT.cells y q=GT.cells (get x) (nw r)->GT.own b6 (Or G cI) bI (set x y) (pK r q)/\GT.cells (set x y) (pK r q)=GT.cells x r):
    ∃H:au,ad w0 M u N H (get (el xs k)) (nw (p.2 k))/\(∀b,H b->F b)/\∀(bI:World) (aB:au) (y:β) (q:GT.Ptr β) (cI Fy:au),(∀b,N b->¬H b->aB b/\bI.heap[b]? =u.heap[b]?)->ad w0 M bI aB cI y q->(∀b,cI b->H b\/Fy b)->J F Fy->GT.cells y q=GT.cells (get (el xs k)) (nw (p.2 k))->
      (∀b,H b->aB b)->ad w0 M bI aB (Or F cI) (xs.set k (set (el xs k) y)) ((p.1,fun i=>if i=k then pK (p.2 k) q else p.2 i):aD α)/\∀j,GT.cells (el (xs.set k (set (el xs k) y)) j) ((fun i=>if i=k then pK (p.2 k) q else p.2 i) j)=GT.cells (el xs j) (p.2 j):=by
  have bN:g4 b6 F u xs p:=o.own
  obtain⟨G,cn,a8,b7⟩:=bN.el
  obtain⟨H,h1,an,aF⟩:=AX (G k) u (el xs k) (p.2 k) (cn k hk)
  have vn:∀b,H b->F b:=fun b hb=>(a8 k hk b (an b hb)).1
  refine⟨H,⟨h1,fun b hb=>o.sub b (vn b hb),fun b hb=>o.dM b (vn b hb)⟩,vn,fun bI aB y q cI Fy up ua hs hd hc adI=>?_⟩
  have keep:∀b,F b->¬H b->bI.heap[b]? =u.heap[b]? :=fun b hb cY=>(up b (o.sub b hb) cY).2
  have vZ:=bN.cap
  have qj:p.1.nil=false:=bN.BK (by omega)
  have yJ:¬H p.1.b:=fun hb=>(a8 k hk _ (an _ hb)).2 rfl
  have yI:F p.1.b:=(bN.row qj).1
  obtain⟨hP,m2⟩:=aF bI y q cI Fy ua.own hs (fun b hb bc=>hd b (a8 k hk b hb).1 bc) (fun b hb cY=>keep b (a8 k hk b hb).1 cY) hc
  refine⟨⟨?_,?_,fun b hb=>hb.elim (o.dM b) (ua.dM b)⟩,fun j=>?_⟩
  rotate_right
  · by_cases e:j=k
    · subst e
      rw [dW hk]
      simp only [if_true]
      exact m2
    · rw [u_ e]
      simp only [if_neg e]
  · show g4 b6 (Or F cI) bI _ _
    refine⟨by rw [List.length_set];exact bN.le,by rw [List.length_set];exact bN.cap,bN.pe,bN.null,fun z=>⟨Or.inl (bN.row z).1,?_⟩,fun i hi=>?_,fun i=>if i=k then Or (G k) cI else G i,fun i hi=>?_,?_,?_⟩
    · rw [keep _ yI yJ];exact(bN.row z).2
    · rw [List.length_set] at hi
      have oD:kW bI p.1.b (p.1.off+i*GT.width α) (GT.cells (el xs i) (p.2 i)):=(bN.cell i hi).uQ (keep _ yI yJ)
      by_cases e:i=k
      · subst e
        rw [dW hi]
        simp only [if_true]
        rw [m2];exact oD
      · rw [u_ e]
        simp only [if_neg e]
        exact oD
    · rw [List.length_set] at hi
      by_cases e:i=k
      · subst e
        rw [dW hi]
        simp only [if_true]
        exact hP
      · rw [u_ e]
        simp only [if_neg e]
        exact GT.b8 (cn i hi) fun b hb _=>keep b (a8 i hi b hb).1 fun bE=>b7 i k hi hk e b hb (an b bE)
    · intro i hi;rw [List.length_set] at hi
      intro b hb
      by_cases e:i=k
      · subst e
        simp only [if_true] at hb
        rcases hb with hb|hb
        · exact⟨Or.inl (a8 i hi b hb).1,(a8 i hi b hb).2⟩
        · refine⟨Or.inr hb,fun cB=>?_⟩
          rcases hs b hb with h|h
          · exact yJ (cB▸h)
          · exact hd _ yI (cB▸h)
      · simp only [if_neg e] at hb
        exact⟨Or.inl (a8 i hi b hb).1,(a8 i hi b hb).2⟩
    · have key:∀i,i<xs.length->i≠k->J (G i) (Or (G k) cI):=fun i hi kH b hb eU=>by
        rcases eU with eU|eU
        · exact b7 i k hi hk kH b hb eU
        · rcases hs b eU with h|h
          · exact b7 i k hi hk kH b hb (an b h)
          · exact hd b (a8 i hi b hb).1 h
      intro i j hi bZ sl;rw [List.length_set] at hi bZ
      by_cases cu:i=k
      · by_cases cB:j=k
        · exact absurd (cu.trans cB.symm) sl
        · simp only [if_pos cu,if_neg cB];exact(key j bZ cB).symm
      · by_cases cB:j=k
        · simp only [if_neg cu,if_pos cB];exact key i hi cu
        · simp only [if_neg cu,if_neg cB];exact b7 i j hi bZ sl
  · intro b hb
    rcases hb with hb|hb
    · by_cases bE:H b
      · exact adI b bE
      · exact(up b (o.sub b hb) bE).1
    · exact ua.sub b hb
theorem ad.x6 {α β:Type} [GT α] [GT β] {xs:List α} {p:aD α} {F:au} (o:ad w0 M u N F xs p) {k:Nat} (hk:k<xs.length) (get:α->β) (nw:GT.Ptr α->GT.Ptr β) (set:α->β->α) (pK:GT.Ptr α->GT.Ptr β->GT.Ptr α)
    (AX:∀(G:au) (u:World) (x:α) (r:GT.Ptr α),GT.own b6 G u x r->∃H:au,GT.own b6 H u (get x) (nw r)/\(∀b,H b->G b)/\∀(bI:World) (y:β) (q:GT.Ptr β) (cI Fy:au),GT.own b6 cI bI y q->(∀b,cI b->H b\/Fy b)->J G Fy->(∀b,G b->¬H b->bI.heap[b]? =u.heap[b]?)->GT.cells y q=GT.cells (get x) (nw r)->GT.own b6 (Or G cI) bI (set x y) (pK r q)/\GT.cells (set x y) (pK r q)=GT.cells x r):
    ∃H:au,ad w0 M u N H (get (el xs k)) (nw (p.2 k))/\(∀b,H b->F b)/\∀(bI:World) (aB:au) (y:β) (q:GT.Ptr β) (cI Fy:au),(∀b,N b->¬H b->aB b/\bI.heap[b]? =u.heap[b]?)->ad w0 M bI aB cI y q->(∀b,cI b->H b\/Fy b)->J F Fy->GT.cells y q=GT.cells (get (el xs k)) (nw (p.2 k))->
      (∀b,H b->aB b)->∃cx,ad w0 M bI aB (Or F cI) (xs.set k (set (el xs k) y)) (p.1,cx)/\∀j,GT.cells (el (xs.set k (set (el xs k) y)) j) (cx j)=GT.cells (el xs j) (p.2 j):=by
  obtain⟨H,h1,an,aF⟩:=o.x7 hk get nw set pK AX
  exact⟨H,h1,an,fun bI aB y q cI Fy a b c d e f=>⟨_,aF bI aB y q cI Fy a b c d e f⟩⟩
theorem vc {β:Type} [GT β] {xs:List β} {p:aD β} {F:au} (o:ad w0 M u N F xs p) {k:Nat} (hk:k<xs.length):
    ∃
      H:au,ad w0 M u N H (el xs k) (p.2 k)/\(∀b,H b->F b)/\∀(bI:World) (aB:au) (y:β) (q:GT.Ptr (β)) (cI Fy:au),(∀b,N b->¬H b->aB b/\bI.heap[b]? =u.heap[b]?)->ad w0 M bI aB cI y q->(∀b,cI b->H b\/Fy b)->J F Fy->GT.cells y q=GT.cells (el xs k) (p.2 k)->(∀b,H b->aB b)->
      ∃cx,ad w0 M bI aB (Or F cI) (xs.set k y) (p.1,cx)/\∀j,GT.cells (el (xs.set k y) j) (cx j)=GT.cells (el xs j) (p.2 j):=
  o.x6 hk (fun x=>x) (fun r=>r) (fun _ y=>y) (fun _ q=>q) fun G u x r h=>⟨G,h,fun _ z=>z,fun _ _ _ _ _ cl _ _ _ hc=>⟨GT.fO cl (Nat.le_refl _) (fun _ z=>Or.inr z),hc⟩⟩
theorem IM {xs:List aO} {p:aD aO} {F:au} (o:ad w0 M u N F xs p) {k:Nat} (hk:k<xs.length):
    ∃
      H:au,ad w0 M u N H (el xs k).outer (p.2 k).outer/\(∀b,H b->F b)/\∀(bI:World) (aB:au) (y:List aR) (q:GT.Ptr (List aR)) (cI Fy:au),(∀b,N b->¬H b->aB b/\bI.heap[b]? =u.heap[b]?)->ad w0 M bI aB cI y q->(∀b,cI b->H b\/Fy b)->J F Fy->GT.cells y q=GT.cells (el xs k).outer (p.2 k).outer->(∀b,H b->aB b)->
      ∃cx,ad w0 M bI aB (Or F cI) (xs.set k {el xs k with outer:=y}) (p.1,cx)/\∀j,GT.cells (el (xs.set k {el xs k with outer:=y}) j) (cx j)=GT.cells (el xs j) (p.2 j):=
  o.x6 hk (fun x=>x.outer) (fun r=>r.outer) (fun x y=>{x with outer:=y}) (fun r q=>{r with outer:=q}) fun G u x r h=>by
    obtain⟨cH,cF,cU,c1,eI,eX,dx,cn,a8,b7,cC,dJ,s,f0,f1,f2⟩:=h
    refine⟨cH,dx,s.sub _ (by simp),fun bI y q cI Fy cl hs hd hw hc=>⟨⟨cI,cF,cU,c1,eI,eX,cl,GT.b8 cn fun b hb _=>hw b (s.sub _ (by simp) b hb) fun bE=>(cz s.cr (i:=0) (j:=1) (by decide) rfl rfl) b bE hb,GT.b8 a8 fun b hb _=>hw b (s.sub _ (by simp) b hb) fun bE=>(cz s.cr (i:=0) (j:=2) (by decide) rfl rfl) b bE hb,GT.b8 b7 fun b hb _=>hw b (s.sub _ (by simp) b hb) fun bE=>(cz s.cr (i:=0) (j:=3) (by decide) rfl rfl) b bE hb,GT.b8 cC fun b hb _=>hw b (s.sub _ (by simp) b hb) fun bE=>(cz s.cr (i:=0) (j:=4) (by decide) rfl rfl) b bE hb,GT.b8 dJ fun b hb _=>hw b (s.sub _ (by simp) b hb) fun bE=>(cz s.cr (i:=0) (j:=5) (by decide) rfl rfl) b bE hb,n_ s (i:=0) rfl hs hd,f0,f1,f2⟩,?_⟩⟩
    have e:=(List.cons.inj hc).1
    show [R y.length q.1,R x.out.length r.out.1,R x.aT.length r.aT.1,R x.U.length r.U.1,R x.outs.length r.outs.1,aa x.aC,aa x.aY,R x.tables.length r.tables.1,aa x.owned]=[R x.outer.length r.outer.1,R x.out.length r.out.1,R x.aT.length r.aT.1,R x.U.length r.U.1,R x.outs.length r.outs.1,aa x.aC,aa x.aY,R x.tables.length r.tables.1,aa x.owned]
    rw [e]
theorem Rj {xs:List aO} {p:aD aO} {F:au} (o:ad w0 M u N F xs p) {k:Nat} (hk:k<xs.length):
    ∃
      H:au,ad w0 M u N H (el xs k).out (p.2 k).out/\(∀b,H b->F b)/\∀(bI:World) (aB:au) (y:List (List Int)) (q:GT.Ptr (List (List Int))) (cI Fy:au),(∀b,N b->¬H b->aB b/\bI.heap[b]? =u.heap[b]?)->ad w0 M bI aB cI y q->(∀b,cI b->H b\/Fy b)->J F Fy->GT.cells y q=GT.cells (el xs k).out (p.2 k).out->(∀b,H b->aB b)->
      ∃cx,ad w0 M bI aB (Or F cI) (xs.set k {el xs k with out:=y}) (p.1,cx)/\∀j,GT.cells (el (xs.set k {el xs k with out:=y}) j) (cx j)=GT.cells (el xs j) (p.2 j):=
  o.x6 hk (fun x=>x.out) (fun r=>r.out) (fun x y=>{x with out:=y}) (fun r q=>{r with out:=q}) fun G u x r h=>by
    obtain⟨cH,cF,cU,c1,eI,eX,dx,cn,a8,b7,cC,dJ,s,f0,f1,f2⟩:=h
    refine⟨cF,cn,s.sub _ (by simp),fun bI y q cI Fy cl hs hd hw hc=>⟨⟨cH,cI,cU,c1,eI,eX,GT.b8 dx fun b hb _=>hw b (s.sub _ (by simp) b hb) fun bE=>(cz s.cr (i:=0) (j:=1) (by decide) rfl rfl) b hb bE,cl,GT.b8 a8 fun b hb _=>hw b (s.sub _ (by simp) b hb) fun bE=>(cz s.cr (i:=1) (j:=2) (by decide) rfl rfl) b bE hb,GT.b8 b7 fun b hb _=>hw b (s.sub _ (by simp) b hb) fun bE=>(cz s.cr (i:=1) (j:=3) (by decide) rfl rfl) b bE hb,GT.b8 cC fun b hb _=>hw b (s.sub _ (by simp) b hb) fun bE=>(cz s.cr (i:=1) (j:=4) (by decide) rfl rfl) b bE hb,GT.b8 dJ fun b hb _=>hw b (s.sub _ (by simp) b hb) fun bE=>(cz s.cr (i:=1) (j:=5) (by decide) rfl rfl) b bE hb,n_ s (i:=1) rfl hs hd,f0,f1,f2⟩,?_⟩⟩
    have e:=(List.cons.inj hc).1
    show [R x.outer.length r.outer.1,R y.length q.1,R x.aT.length r.aT.1,R x.U.length r.U.1,R x.outs.length r.outs.1,aa x.aC,aa x.aY,R x.tables.length r.tables.1,aa x.owned]=[R x.outer.length r.outer.1,R x.out.length r.out.1,R x.aT.length r.aT.1,R x.U.length r.U.1,R x.outs.length r.outs.1,aa x.aC,aa x.aY,R x.tables.length r.tables.1,aa x.owned]
    rw [e]
theorem Ri {xs:List aO} {p:aD aO} {F:au} (o:ad w0 M u N F xs p) {k:Nat} (hk:k<xs.length):
    ∃
      H:au,ad w0 M u N H (el xs k).aT (p.2 k).aT/\(∀b,H b->F b)/\∀(bI:World) (aB:au) (y:List Bool) (q:GT.Ptr (List Bool)) (cI Fy:au),(∀b,N b->¬H b->aB b/\bI.heap[b]? =u.heap[b]?)->ad w0 M bI aB cI y q->(∀b,cI b->H b\/Fy b)->J F Fy->GT.cells y q=GT.cells (el xs k).aT (p.2 k).aT->(∀b,H b->aB b)->
      ∃cx,ad w0 M bI aB (Or F cI) (xs.set k {el xs k with aT:=y}) (p.1,cx)/\∀j,GT.cells (el (xs.set k {el xs k with aT:=y}) j) (cx j)=GT.cells (el xs j) (p.2 j):=
  o.x6 hk (fun x=>x.aT) (fun r=>r.aT) (fun x y=>{x with aT:=y}) (fun r q=>{r with aT:=q}) fun G u x r h=>by
    obtain⟨cH,cF,cU,c1,eI,eX,dx,cn,a8,b7,cC,dJ,s,f0,f1,f2⟩:=h
    refine⟨cU,a8,s.sub _ (by simp),fun bI y q cI Fy cl hs hd hw hc=>⟨⟨cH,cF,cI,c1,eI,eX,GT.b8 dx fun b hb _=>hw b (s.sub _ (by simp) b hb) fun bE=>(cz s.cr (i:=0) (j:=2) (by decide) rfl rfl) b hb bE,GT.b8 cn fun b hb _=>hw b (s.sub _ (by simp) b hb) fun bE=>(cz s.cr (i:=1) (j:=2) (by decide) rfl rfl) b hb bE,cl,GT.b8 b7 fun b hb _=>hw b (s.sub _ (by simp) b hb) fun bE=>(cz s.cr (i:=2) (j:=3) (by decide) rfl rfl) b bE hb,GT.b8 cC fun b hb _=>hw b (s.sub _ (by simp) b hb) fun bE=>(cz s.cr (i:=2) (j:=4) (by decide) rfl rfl) b bE hb,GT.b8 dJ fun b hb _=>hw b (s.sub _ (by simp) b hb) fun bE=>(cz s.cr (i:=2) (j:=5) (by decide) rfl rfl) b bE hb,n_ s (i:=2) rfl hs hd,f0,f1,f2⟩,?_⟩⟩
    have e:=(List.cons.inj hc).1
    show [R x.outer.length r.outer.1,R x.out.length r.out.1,R y.length q.1,R x.U.length r.U.1,R x.outs.length r.outs.1,aa x.aC,aa x.aY,R x.tables.length r.tables.1,aa x.owned]=[R x.outer.length r.outer.1,R x.out.length r.out.1,R x.aT.length r.aT.1,R x.U.length r.U.1,R x.outs.length r.outs.1,aa x.aC,aa x.aY,R x.tables.length r.tables.1,aa x.owned]
    rw [e]
theorem pk {xs:List aO} {p:aD aO} {F:au} (o:ad w0 M u N F xs p) {k:Nat} (hk:k<xs.length):
    ∃
      H:au,ad w0 M u N H (el xs k).U (p.2 k).U/\(∀b,H b->F b)/\∀(bI:World) (aB:au) (y:List ax) (q:GT.Ptr (List ax)) (cI Fy:au),(∀b,N b->¬H b->aB b/\bI.heap[b]? =u.heap[b]?)->ad w0 M bI aB cI y q->(∀b,cI b->H b\/Fy b)->J F Fy->GT.cells y q=GT.cells (el xs k).U (p.2 k).U->(∀b,H b->aB b)->
      ∃cx,ad w0 M bI aB (Or F cI) (xs.set k {el xs k with U:=y}) (p.1,cx)/\∀j,GT.cells (el (xs.set k {el xs k with U:=y}) j) (cx j)=GT.cells (el xs j) (p.2 j):=
  o.x6 hk (fun x=>x.U) (fun r=>r.U) (fun x y=>{x with U:=y}) (fun r q=>{r with U:=q}) fun G u x r h=>by
    obtain⟨cH,cF,cU,c1,eI,eX,dx,cn,a8,b7,cC,dJ,s,f0,f1,f2⟩:=h
    refine⟨c1,b7,s.sub _ (by simp),fun bI y q cI Fy cl hs hd hw hc=>⟨⟨cH,cF,cU,cI,eI,eX,GT.b8 dx fun b hb _=>hw b (s.sub _ (by simp) b hb) fun bE=>(cz s.cr (i:=0) (j:=3) (by decide) rfl rfl) b hb bE,GT.b8 cn fun b hb _=>hw b (s.sub _ (by simp) b hb) fun bE=>(cz s.cr (i:=1) (j:=3) (by decide) rfl rfl) b hb bE,GT.b8 a8 fun b hb _=>hw b (s.sub _ (by simp) b hb) fun bE=>(cz s.cr (i:=2) (j:=3) (by decide) rfl rfl) b hb bE,cl,GT.b8 cC fun b hb _=>hw b (s.sub _ (by simp) b hb) fun bE=>(cz s.cr (i:=3) (j:=4) (by decide) rfl rfl) b bE hb,GT.b8 dJ fun b hb _=>hw b (s.sub _ (by simp) b hb) fun bE=>(cz s.cr (i:=3) (j:=5) (by decide) rfl rfl) b bE hb,n_ s (i:=3) rfl hs hd,f0,f1,f2⟩,?_⟩⟩
    have e:=(List.cons.inj hc).1
    show [R x.outer.length r.outer.1,R x.out.length r.out.1,R x.aT.length r.aT.1,R y.length q.1,R x.outs.length r.outs.1,aa x.aC,aa x.aY,R x.tables.length r.tables.1,aa x.owned]=[R x.outer.length r.outer.1,R x.out.length r.out.1,R x.aT.length r.aT.1,R x.U.length r.U.1,R x.outs.length r.outs.1,aa x.aC,aa x.aY,R x.tables.length r.tables.1,aa x.owned]
    rw [e]
theorem aiM {K:Nat} {G Fy:au} {u:World} {x:aO} {p:ft} {l:List ax} {q:GT.Ptr (List ax)} (h:GT.own K G u x p) (hl:GT.own K Fy u l q) (hd:J G Fy):GT.own K (Or G Fy) u ({x with U:=l}:aO) {p with U:=q}:=by
  obtain⟨cH,cF,cU,c1,eI,eX,dx,cn,a8,b7,cC,dJ,s,f0,f1,f2⟩:=h
  exact⟨cH,cF,cU,Fy,eI,eX,dx,cn,a8,hl,cC,dJ,n_ s (i:=3) rfl (fun _ z=> .inr z) hd,f0,f1,f2⟩
theorem Rk {xs:List aO} {p:aD aO} {F:au} (o:ad w0 M u N F xs p) {k:Nat} (hk:k<xs.length):
    ∃
      H:au,ad w0 M u N H (el xs k).tables (p.2 k).tables/\(∀b,H b->F b)/\∀(bI:World) (aB:au) (y:List bS) (q:GT.Ptr (List bS)) (cI Fy:au),(∀b,N b->¬H b->aB b/\bI.heap[b]? =u.heap[b]?)->ad w0 M bI aB cI y q->(∀b,cI b->H b\/Fy b)->J F Fy->GT.cells y q=GT.cells (el xs k).tables (p.2 k).tables->(∀b,H b->aB b)->
      ∃cx,ad w0 M bI aB (Or F cI) (xs.set k {el xs k with tables:=y}) (p.1,cx)/\∀j,GT.cells (el (xs.set k {el xs k with tables:=y}) j) (cx j)=GT.cells (el xs j) (p.2 j):=
  o.x6 hk (fun x=>x.tables) (fun r=>r.tables) (fun x y=>{x with tables:=y}) (fun r q=>{r with tables:=q}) fun G u x r h=>by
    obtain⟨cH,cF,cU,c1,eI,eX,dx,cn,a8,b7,cC,dJ,s,f0,f1,f2⟩:=h
    refine⟨eX,dJ,s.sub _ (by simp),fun bI y q cI Fy cl hs hd hw hc=>⟨⟨cH,cF,cU,c1,eI,cI,GT.b8 dx fun b hb _=>hw b (s.sub _ (by simp) b hb) fun bE=>(cz s.cr (i:=0) (j:=5) (by decide) rfl rfl) b hb bE,GT.b8 cn fun b hb _=>hw b (s.sub _ (by simp) b hb) fun bE=>(cz s.cr (i:=1) (j:=5) (by decide) rfl rfl) b hb bE,GT.b8 a8 fun b hb _=>hw b (s.sub _ (by simp) b hb) fun bE=>(cz s.cr (i:=2) (j:=5) (by decide) rfl rfl) b hb bE,GT.b8 b7 fun b hb _=>hw b (s.sub _ (by simp) b hb) fun bE=>(cz s.cr (i:=3) (j:=5) (by decide) rfl rfl) b hb bE,GT.b8 cC fun b hb _=>hw b (s.sub _ (by simp) b hb) fun bE=>(cz s.cr (i:=4) (j:=5) (by decide) rfl rfl) b hb bE,cl,n_ s (i:=5) rfl hs hd,f0,f1,f2⟩,?_⟩⟩
    have e:=(List.cons.inj hc).1
    show [R x.outer.length r.outer.1,R x.out.length r.out.1,R x.aT.length r.aT.1,R x.U.length r.U.1,R x.outs.length r.outs.1,aa x.aC,aa x.aY,R y.length q.1,aa x.owned]=[R x.outer.length r.outer.1,R x.out.length r.out.1,R x.aT.length r.aT.1,R x.U.length r.U.1,R x.outs.length r.outs.1,aa x.aC,aa x.aY,R x.tables.length r.tables.1,aa x.owned]
    rw [e]
theorem aiL {K:Nat} {G Fy:au} {u:World} {x:ah} {p:b_} {l:List (List Int)} {q:GT.Ptr (List (List Int))} (h:GT.own K G u x p) (hl:GT.own K Fy u l q) (hd:J G Fy):GT.own K (Or G Fy) u ({x with mem:=l}:ah) {p with mem:=q}:=by
  obtain⟨cH,cF,cU,c1,dx,cn,a8,b7,s⟩:=h
  exact⟨Fy,cF,cU,c1,hl,cn,a8,b7,n_ s (i:=0) rfl (fun _ z=> .inr z) hd⟩
theorem abZ {xs:List ah} {p:aD ah} {F:au} (o:ad w0 M u N F xs p) {k:Nat} (hk:k<xs.length):
    ∃
      H:au,ad w0 M u N H (el xs k).I (p.2 k).I/\(∀b,H b->F b)/\∀(bI:World) (aB:au) (y:List aO) (q:GT.Ptr (List aO)) (cI Fy:au),(∀b,N b->¬H b->aB b/\bI.heap[b]? =u.heap[b]?)->ad w0 M bI aB cI y q->(∀b,cI b->H b\/Fy b)->J F Fy->GT.cells y q=GT.cells (el xs k).I (p.2 k).I->(∀b,H b->aB b)->
      ad w0 M bI aB (Or F cI) (xs.set k {el xs k with I:=y}) ((p.1,fun i=>if i=k then({p.2 k with I:=q}:b_) else p.2 i):aD ah):=by
  obtain⟨H,h1,an,aF⟩:=o.x7 hk (fun x=>x.I) (fun r=>r.I) (fun x y=>{x with I:=y}) (fun r q=>{r with I:=q}) fun G u x r h=>by
    obtain⟨cH,cF,cU,c1,dx,cn,a8,b7,s⟩:=h
    refine⟨cF,cn,s.sub _ (by simp),fun bI y q cI Fy cl hs hd hw hc=>⟨⟨cH,cI,cU,c1,GT.b8 dx fun b hb _=>hw b (s.sub _ (by simp) b hb) fun bE=>(cz s.cr (i:=0) (j:=1) (by decide) rfl rfl) b hb bE,cl,GT.b8 a8 fun b hb _=>hw b (s.sub _ (by simp) b hb) fun bE=>(cz s.cr (i:=1) (j:=2) (by decide) rfl rfl) b bE hb,GT.b8 b7 fun b hb _=>hw b (s.sub _ (by simp) b hb) fun bE=>(cz s.cr (i:=1) (j:=3) (by decide) rfl rfl) b bE hb,n_ s (i:=1) rfl hs hd⟩,?_⟩⟩
    have e:=(List.cons.inj hc).1
    show [R x.mem.length r.mem.1,R y.length q.1,R x.buf.length r.buf.1,R x.ag.length r.ag.1]=[R x.mem.length r.mem.1,R x.I.length r.I.1,R x.buf.length r.buf.1,R x.ag.length r.ag.1]
    rw [e]
  exact⟨H,h1,an,fun bI aB y q cI Fy a b c d e f=>(aF bI aB y q cI Fy a b c d e f).1⟩
theorem Mr {K:Nat} {G Fy:au} {u:World} {x:ah} {p:b_} {l:List aH} {q:GT.Ptr (List aH)} (h:GT.own K G u x p) (hl:GT.own K Fy u l q) (hd:J G Fy):GT.own K (Or G Fy) u ({x with buf:=l}:ah) {p with buf:=q}:=by
  obtain⟨cH,cF,cU,c1,dx,cn,a8,b7,s⟩:=h
  exact⟨cH,cF,Fy,c1,dx,cn,hl,b7,n_ s (i:=2) rfl (fun _ z=> .inr z) hd⟩
theorem aiK {K:Nat} {G Fy:au} {u:World} {x:ah} {p:b_} {l:List aH} {q:GT.Ptr (List aH)} (h:GT.own K G u x p) (hl:GT.own K Fy u l q) (hd:J G Fy):GT.own K (Or G Fy) u ({x with ag:=l}:ah) {p with ag:=q}:=by
  obtain⟨cH,cF,cU,c1,dx,cn,a8,b7,s⟩:=h
  exact⟨cH,cF,cU,Fy,dx,cn,a8,hl,n_ s (i:=3) rfl (fun _ z=> .inr z) hd⟩
end
end Go.Proofs.YtjlocpdfcanlhaaGreat
namespace Go.Proofs.YtjlocpdfcanlhaaGreat
open Go
def ke (k:bS) (page:Int):bS:=
  if(0<=page/\page<k.known.length)/\page<k.aZ.length then⟨k.known.set page.toNat false,k.aZ.set page.toNat ⟨-1,0⟩⟩ else k
def abJ (k:bS) (n:Nat):bS:=(List.range n).foldl (fun k (i:Nat)=>ke k (i:Int)) k
def abI (k:bS):bS:=abJ k k.known.length
def abE (m:aO):aO:={m with tables:=m.tables.map abI}
def anC (h:ah):ah:=⟨h.mem,h.I.map abE,[],[]⟩
def jC (b:cP):Bool:=b.U.all kC&&ib b.mem 8&&a3 b.U.length 1 2&&decide (b.outs.length<=40)&&a3 b.aC 0 255
theorem Yc {b:cP} (h:jC b=true):1<=b.U.length/\b.U.length<=2/\0<=b.aC/\b.aC<=255:=by
  simp only [jC,Bool.and_eq_true] at h
  have h1:=cV h.1.1.2
  have an:=cV h.2
  omega
def abT (c:fy) (n:Int):Bool:=m5 c&&a3 n 0 7&&(jK (sV c.post n) 1==1)
def Rb (b:cP) (n:Int):List Int:=lO b.U.length fun i=>abT (el b.U i).aN n
def D7 (p n:Int):Int×Bool:=if a3 p 0 255=true/\a3 n 0 7=true then(agJ p (oX 1 n),true) else(p,false)
def akx (n:Int) (gs:List ax) (g:Int):List ax:=gs.set g.toNat {el gs g.toNat with aC:=(D7 (el gs g.toNat).aC n).1}
def abB (b:cP) (n:Int):cP×Bool:=
  if jC b=true/\0<=n/\n<=7 then
    (⟨b.mem,(Rb b n).foldl (akx n) b.U,b.outs,if(Rb b n).length=0 then(D7 b.aC n).1 else b.aC⟩,true)
  else(b,false)
theorem qU {r n:Int} (h:fj r n=true):0<=n/\n<=3:=by
  simp only [fj,Bool.and_eq_true] at h
  exact cV h.1.2
def a2 (b:cP) (g:Int):ax×Bool:=if 0<=g/\g<b.U.length then(el b.U g.toNat,true) else(⟨[],0,0,[],[],⟨0,0,false⟩,0,⟨0,0,false,0⟩,false,[]⟩,false)
def ct (a:Int):Int:=if a<0 then-1 else Int.tdiv a 4
def ds (a:Int):Int:=if a<0 then-1 else Int.tmod a 4
theorem rS {a:Int} (h:a_ a):a_ (ct a):=by
  unfold ct
  split
  · exact⟨by decide,by decide⟩
  · have h1:=h.1
    have an:=h.2
    rw [Int.tdiv_eq_ediv_of_nonneg (by omega)]
    exact⟨by omega,by omega⟩
def cW (t:List aR) (page need:Int):Int×Bool:=
  if(eV t page).page=-1\/fj (eV t page).bg need=false\/need=0 then(-1,false) else((eV t page).page,true)
def Ra (b:cP) (g:Int):Bool:=jC b&&a3 g 0 ((b.U.length:Int)-1)
def D5 (b:cP) (g addr need:Int):Int×Bool:=
  if Ra b g=true/\a3 addr 0 15=true then cW (el b.U g.toNat).live (ct addr) need else(-1,false)
def an0 (b:cP) (g addr need:Int):Int×Int×Bool:=
  if Ra b g=true/\a3 addr 0 15=true then((D5 b g addr need).1,ds addr,(D5 b g addr need).2) else(0,0,false)
def x2 (m:List (List Int)) (p c:Int):Bool:=decide ((0<=p/\p<m.length)/\0<=c/\c<(el m p.toNat).length)
theorem Sn {m:List (List Int)} {p c:Int} (h:x2 m p c=true):(0<=p/\p<m.length)/\0<=c/\c<(el m p.toNat).length:=of_decide_eq_true h
theorem Sm {m:List (List Int)} {p c:Int} (h:x2 m p c=false):¬((0<=p/\p<m.length)/\0<=c/\c<(el m p.toNat).length):=of_decide_eq_false h
def gh (m:List (List Int)) (p c v:Int):List (List Int):=
  if((0<=p/\p<m.length)/\0<=c/\c<(el m p.toNat).length)/\0<=v/\v<=99 then m.set p.toNat ((el m p.toNat).set c.toNat v) else m
def anz (b:cP) (g addr v:Int):cP×Bool:=
  if(D5 b g addr 2).2=true/\a3 v 0 99=true then(⟨gh b.mem (D5 b g addr 2).1 (ds addr) v,b.U,b.outs,b.aC⟩,true) else(b,false)
theorem Wk {x:Int} (h:a_ x) (h0:0<=x):a_ (x.tdiv 4):=by
  have h1:=h.1
  have an:=h.2
  rw [Int.tdiv_eq_ediv_of_nonneg h0]
  exact⟨by omega,by omega⟩
theorem ac3 {b:cP} {g:Int} (h:(a2 b g).2=true):0<=g/\g<b.U.length:=by
  unfold a2 at h
  split at h
  · assumption
  · cases h
theorem ac2 {b:cP} {g:Int} (h:(a2 b g).2=false):¬(0<=g/\g<b.U.length):=by
  unfold a2 at h
  split at h
  · cases h
  · assumption
end Go.Proofs.YtjlocpdfcanlhaaGreat
namespace Go.Proofs.YtjlocpdfcanlhaaGreat
open Go
set_option linter.unusedVariables false
variable {P:Program} {n:Nat} {w0:World} {M:au} {u:World} {N:au} {β:Nat->Nat} {σ:b3} {a:Act} {w:World} {ops:Array Oper} {Q:Exit->Act->World->Prop}
theorem aj.q (S:aj P n w0 M u N β σ a w) {i:Nat} (k:Nat) (keep:List Nat) (m:Nat) (σ':b3) {claims:List (Ask×Value)} (a9:fA P u N claims) (K:∀a1 w' cL,aj P n w0 M u N cL σ' a1 w'->jX P ops Q (i+k) a1 w')
    (bW:nN P n ops i k σ (claims.map (·.2)) keep m=some (σ',claims):=by kernel_rfl):jX P ops Q i a w:=S.quiet a9 bW K
theorem aj.c (S:aj P n w0 M u N β σ a w) {c:Operand} {x y:Code} (e:Bool) (bx:e=true->x.wp P Q a w) (bc:e=false->y.wp P Q a w) (he:σ.get c=some (.v (.bool e)):=by kernel_rfl):(Code.cond c x y).wp P Q a w:=S.cond he bx bc
theorem aj.r (S:aj P n w0 M u N β σ a w) {fn:Func} {cf:Ending->World->Prop} (er:List Value) (h:cf (.returned (packed er)) w) (b2:pN P σ fn.results.toList=some er:=by kernel_rfl):bodyPost P fn cf .ret a w:=S.ret b2 h
theorem aj.f (S:aj P n w0 M u N β σ a w) {fn:Func} {cf:Ending->World->Prop} (er:List Value) (h:cf (.returned (packed er)) w) (b2:pN P σ fn.results.toList=some er:=by kernel_rfl):bodyPost P fn cf .normal a w:=S.Rd b2 h
theorem aj.p (S:aj P n w0 M u N β σ a w) (keep:List Nat) (m:Nat) (σ':b3) (h:ru σ keep m=some σ':=by kernel_rfl):aj P n w0 M u N β σ' a w:=S.prune h
theorem aj.call3 {α:Type} [GT α] {dh:Act->World->Prop} (S:aj P n w0 M u N β σ a w) {i:Nat} {f:FuncId} {eN:List Value} {d:Tmp} {r:α} {r':Int} {r'':Bool} (hc:Calls P f eN.toArray w (zG ab w r r' r'')) (hcall:kz P n ops i σ=some (f,eN,d)) (hd:Nat.blt d n=true)
    (K:∀a1 w' aB q F,aj P n w0 M w' aB β ⟨(d,.v (.tuple #[GT.val r q,aa r',B r'']))::σ.env,σ.aM⟩ a1 w'->(∀b,N b->aB b/\w'.heap[b]? =u.heap[b]?)->ad w0 M w' aB F r q->J N F->a_ r'->dh a1 w'):wpOp P ops Q i dh a w:=
  S.call hcall hc fun _ w' ⟨q,ji,MI,F,he,fp,bN,kI,apb,bc⟩=>⟨_,he,K _ w' _ q F (S.after hd fp) (S.up fp)
    ⟨bN,fun b h=> .inr (bc b h),fun b h=> .inl (Nat.le_trans S.fu.size (bc b h).1)⟩ (J.fresh S w' fun b h=>bc b h) kI⟩
def Ui:List Nat->Nat->Bool
  |[],_=>false
  |s::r,t=>bif Nat.beq s t then true else Ui r t
def So:Env->Nat->Bool
  |[],_=>false
  |(s,_)::r,t=>bif Nat.beq s t then true else So r t
def rI:Env->List Nat->Env->List Nat
  |[],_,_=>[]
  |(t,_)::r,dL,new=>bif Ui dL t then rI r dL new else bif So new t then rI r dL new else t::rI r dL new
def mG:Env->List Nat
  |[]=>[]
  |(s,_)::r=>s::mG r
def O8:List (List Value)->List (Nat×List Value)->List (List Value)
  |b,[]=>b
  |b,(k,c)::r=>O8 (bif Nat.blt k b.length then b.set k c else b++[c]) r
def b3.dl (σ:b3) (dL:List Nat) (new:Env) (m:Nat) (pc:List (Nat×List Value)):b3:=⟨σ.keep m (rI σ.env dL new)++new,(O8 σ.aM pc).take m⟩
theorem aj.z (S:aj P n w0 M u N β σ a w) {σ':b3} (h:ru σ (mG σ'.env) σ'.aM.length=some σ':=by kernel_rfl):aj P n w0 M u N β σ' a w:=S.prune h
theorem rd {i:Nat} (h:Q .normal a w) (hi:Nat.ble ops.size i=true:=by rfl):jX P ops Q i a w:=jX.done hi h
theorem wr (h:Q .ret a w):Code.ret.wp P Q a w:=wp_ret h
abbrev a0 (x:Int):Int:=IntKind.i64.wrap (x+1)
section
variable {α:Type} [GT α] {xs:List α} {p:aD α} {K:Nat}
theorem b5 (h:GT.rd K N u xs p) (k:Nat) {l:Nat} {t e:TypeId} (bx:P.underlying t=some (.slice e)) (hl:l=xs.length:=by rfl) (hi:k<xs.length:=by omega) (he:jn P e=some (GT.width α):=by kernel_rfl):
    g5 P u N (.idx t (R l p.1) (aa (k:Int))) (bh p.1.b (p.1.off+k*GT.width α)):=eP h hl rfl hi bx he
theorem cq (h:GT.rd K N u xs p) (i:Int) {l:Nat} {t e:TypeId} (bx:P.underlying t=some (.slice e)) (hl:l=xs.length:=by rfl) (hk:i=(i.toNat:Int):=by omega) (hi:i.toNat<xs.length:=by omega) (he:jn P e=some (GT.width α):=by kernel_rfl):
    g5 P u N (.idx t (R l p.1) (aa i)) (bh p.1.b (p.1.off+i.toNat*GT.width α)):=eP h hl hk hi bx he
theorem cj (h:GT.rd K N u xs p) (t:TypeId) (k:Nat) (hi:k<xs.length:=by omega) (ay:GT.agg α=false:=by rfl) (bx:lC P t=some false:=by kernel_rfl):
    g5 P u N (.load t (bh p.1.b (p.1.off+k*GT.width α))) (GT.val (el xs k) (p.2 k)):=Dh h hi ay bx
theorem dz (h:GT.rd K N u xs p) (t:TypeId) (k:Nat) (hi:k<xs.length:=by omega) (aJ:GT.agg α=true:=by rfl) (ay:lC P t=some true:=by kernel_rfl) (hs:jn P t=some (GT.width α):=by kernel_rfl):
    g5 P u N (.load t (bh p.1.b (p.1.off+k*GT.width α))) (GT.val (el xs k) (p.2 k)):=rP h hi aJ ay hs
theorem cA (h:GT.rd K N u xs p) (t:TypeId) (k j:Nat) (v:Value) (hi:k<xs.length:=by omega) (bZ:(GT.cells (el xs k) (p.2 k))[j]? =some v:=by kernel_rfl) (bx:lC P t=some false:=by kernel_rfl):
    g5 P u N (.load t (bh p.1.b (p.1.off+k*GT.width α+j))) v:=iS h hi bZ bx
theorem cc (x y:Int) (h:a_ (x+y):=by exact⟨by omega,by omega⟩):g5 P u N (.int .add .i64 x y) (aa (x+y)):=Xi h
theorem hf (x y:Int) (h:a_ (x-y):=by exact⟨by omega,by omega⟩):g5 P u N (.int .sub .i64 x y) (aa (x-y)):=Xl h
theorem aj.dB {dh:Act->World->Prop} (S:aj P n w0 M u N β σ a w) {i:Nat} {f:FuncId} {eN:List Value} (d:Tmp) {r:α} (hc:Calls P f eN.toArray w (dw ab w r))
    (K:∀a1 w' aB q F,aj P n w0 M w' aB β ⟨(d,.v (GT.val r q))::σ.env,σ.aM⟩ a1 w'->(∀b,N b->aB b/\w'.heap[b]? =u.heap[b]?)->ad w0 M w' aB F r q->J N F->dh a1 w')
    (hcall:kz P n ops i σ=some (f,eN,d):=by kernel_rfl) (hd:Nat.blt d n=true:=by rfl):wpOp P ops Q i dh a w:=S.Qk hc hcall hd K
end
abbrev bQ {α:Type} [GT α] (w0:World) (x:α) (p:GT.Ptr α):Prop:=GT.rd b6 (fc w0.heap.size) w0 x p
theorem cw {p:Prop} (h:p:=by first|omega|(simp;done)|(simp;omega)):p:=h
theorem cK {p:Prop} (h:p:=by clear S;first|omega|(simp [*];done)|(simp [*];omega)):p:=h
end Go.Proofs.YtjlocpdfcanlhaaGreat
namespace Go.Proofs.YtjlocpdfcanlhaaGreat
open Go
def dC {α:Type} [GT α] (b:Nat) (p:GT.Ptr α):aD α:=(⟨false,b,0,1,none⟩,fun _=>p)
def x9 (k b:Nat):eQ->eQ
  | .p j o=>bif Nat.beq j k then .v (bh b o) else .p (bif Nat.blt k j then j-1 else j) o
  | .v x=> .v x
def tu (k b:Nat):Env->Env
  |[]=>[]
  |(t,s)::r=>(t,x9 k b s)::tu k b r
theorem BB {k b t:Nat}:∀(e:Env),look (tu k b e) t=(look e t).map (x9 k b)
  |
    []=>rfl
  |(s,x)::r=>by
    simp only [tu,pE]
    split
    · rfl
    · exact BB r
def b3.nU (σ:b3) (k b:Nat):b3:=⟨tu k b σ.env,σ.aM.eraseIdx k⟩
section
variable {P:Program} {n:Nat} {w0:World} {M:au} {u:World} {N:au} {β:Nat->Nat} {σ:b3} {a:Act} {w:World} {ops:Array Oper} {dh:Act->World->Prop} {Q:Exit->Act->World->Prop}
theorem aj.nU (S:aj P n w0 M u N β σ a w) {G:Prop} {α:Type} [GT α] (k:Nat) (x:α) (p:GT.Ptr α) (hx:GT.own b6 ab w x p)
    (K:∀(cL:Nat->Nat) (aB:au) (b:Nat) (F:au),aj P n w0 M w aB cL (σ.nU k b) a w->(∀b,N b->aB b/\w.heap[b]? =u.heap[b]?)->ad w0 M w aB F [x] (dC b p)->J N F->G)
    (hk:σ.aM[k]? =some (GT.cells x p):=by kernel_rfl):G:=by
  have pz:k<σ.aM.length:=(List.getElem?_eq_some_iff.1 hk).1
  obtain⟨T,se⟩:=S.box k _ hk
  have hb:β k<w.heap.size:=by
    rcases Nat.lt_or_ge (β k) w.heap.size with hl|hl
    · exact hl
    · rw [Array.getElem?_eq_none hl] at se;cases se
  have hlen:(σ.aM.eraseIdx k).length=σ.aM.length-1:=List.length_eraseIdx_of_lt pz
  have l1:∀i,i<(σ.aM.eraseIdx k).length->(bif Nat.blt i k then i else i+1)<σ.aM.length/\(bif Nat.blt i k then i else i+1)≠k:=fun i hi=>by
    rw [hlen] at hi
    cases h:Nat.blt i k with
    |true=>have:=(Nat.le_of_ble_eq_true h:i+1<=k);exact⟨by simp only [cond_true];omega,by simp only [cond_true];omega⟩
    |false=>
      have:¬i<k:=fun aX=>by rw [show Nat.blt i k=true from Nat.ble_eq_true_of_le aX] at h;cases h
      exact⟨by simp only [cond_false];omega,by simp only [cond_false];omega⟩
  have Kk:=GT.len x p
  refine K (fun i=>β (bif Nat.blt i k then i else i+1)) (fun b=>N b\/b=β k) (β k) (fun b=>b=β k) ⟨S.ml,S.aW,fun t s bx=>?_,fun t i o bx=>?_,fun i cs hi=>?_,fun i j hi bZ h=>?_,fun i hi=>?_,fun b eU=>?_,S.fu,fun b eU hm=>?_⟩ (fun b eU=>⟨.inl eU,(S.sep b eU).2.1⟩) ⟨?_,fun b h=> .inr h,fun b h=>?_⟩ (fun b h1 an=>?_)
  · rw [show(σ.nU k (β k)).env=tu k (β k) σ.env from rfl,BB] at bx
    cases hs:look σ.env t with
    |none=>rw [hs] at bx;cases bx
    |some gd=>
      rw [hs] at bx
      simp only [Option.map_some,Option.some.injEq] at bx
      subst bx
      rw [S.env t gd hs]
      congr 1
      cases gd with
      |v x=>rfl
      |p j o=>
        simp only [x9]
        cases he:Nat.beq j k with
        |true=>rw [Nat.eq_of_beq_eq_true he];rfl
        |false=>
          have sm:j≠k:=fun e=>by rw [e,Nat.beq_refl] at he;cases he
          simp only [cond_false,eQ.val]
          cases hl:Nat.blt k j with
          |true=>
            have h1:k<j:=Nat.le_of_ble_eq_true hl
            have an:Nat.blt (j-1) k=false:=by
              cases aF:Nat.blt (j-1) k with
              |false=>rfl
              |true=>have:=(Nat.le_of_ble_eq_true aF:j-1+1<=k);omega
            simp only [cond_true,an,cond_false]
            rw [show j-1+1=j by omega]
          |false=>
            have h1:¬k<j:=fun aX=>by rw [show Nat.blt k j=true from Nat.ble_eq_true_of_le aX] at hl;cases hl
            have an:Nat.blt j k=true:=Nat.ble_eq_true_of_le (by omega:j+1<=k)
            simp only [cond_false,an,cond_true]
  · rw [show(σ.nU k (β k)).env=tu k (β k) σ.env from rfl,BB] at bx
    show i<(σ.aM.eraseIdx k).length
    cases hs:look σ.env t with
    |none=>rw [hs] at bx;cases bx
    |some gd=>
      rw [hs] at bx
      simp only [Option.map_some,Option.some.injEq] at bx
      cases gd with
      |v x=>cases bx
      |p j jw=>
        have bZ:=S.ok t j jw hs
        simp only [x9] at bx
        cases he:Nat.beq j k with
        |true=>rw [he] at bx;cases bx
        |false=>
          have sm:j≠k:=fun e=>by rw [e,Nat.beq_refl] at he;cases he
          rw [he] at bx
          simp only [cond_false,eQ.p.injEq] at bx
          rw [hlen,←bx.1]
          cases hl:Nat.blt k j with
          |true=>simp only [cond_true];have:=(Nat.le_of_ble_eq_true hl:k+1<=j);omega
          |false=>
            have h1:¬k<j:=fun aX=>by rw [show Nat.blt k j=true from Nat.ble_eq_true_of_le aX] at hl;cases hl
            simp only [cond_false];omega
  · have hF:(σ.aM.eraseIdx k)[i]? =some cs:=hi
    rw [List.getElem?_eraseIdx] at hF
    cases h:Nat.blt i k with
    |true=>
      rw [if_pos (show i<k from Nat.le_of_ble_eq_true h)] at hF
      obtain⟨oh,cl⟩:=S.box i cs hF
      exact⟨oh,by simpa only [h,cond_true] using cl⟩
    |false=>
      have:¬i<k:=fun aX=>by rw [show Nat.blt i k=true from Nat.ble_eq_true_of_le aX] at h;cases h
      rw [if_neg this] at hF
      obtain⟨oh,cl⟩:=S.box (i+1) cs hF
      exact⟨oh,by simpa only [h,cond_false] using cl⟩
  · have e:=S.inj _ _ (l1 i hi).1 (l1 j bZ).1 h
    have mV:=(l1 i hi).2
    have lf:=(l1 j bZ).2
    revert e mV lf
    cases h1:Nat.blt i k<;>cases an:Nat.blt j k<;>simp only [cond_true,cond_false]<;>intro e mV lf
    · omega
    · have:=(Nat.le_of_ble_eq_true an:j+1<=k)
      have:¬i<k:=fun aX=>by rw [show Nat.blt i k=true from Nat.ble_eq_true_of_le aX] at h1;cases h1
      omega
    · have:=(Nat.le_of_ble_eq_true h1:i+1<=k)
      have:¬j<k:=fun aX=>by rw [show Nat.blt j k=true from Nat.ble_eq_true_of_le aX] at an;cases an
      omega
    · exact e
  · exact S.new _ (l1 i hi).1
  · rcases eU with h|h
    · exact⟨(S.sep b h).1,rfl,fun i hi=>(S.sep b h).2.2 _ (l1 i hi).1⟩
    · subst h
      exact⟨hb,rfl,fun i hi e=>(l1 i hi).2 (S.inj _ _ (l1 i hi).1 pz e)⟩
  · have h:=S.k8 b eU hm
    exact⟨.inl h.1,(S.sep b h.1).2.1.trans h.2⟩
  · show g4 b6 _ w [x] (dC (β k) p)
    refine⟨by simp [b6],Nat.le_refl _,by simp [dC],fun h=>(by cases h),fun _=>⟨rfl,_,T,se,by simp [dC,Kk]⟩,fun i hi=>?_,⟨fun _=>ab,fun i hi=>?_,fun _ _ _ h=>False.elim h,fun i j hi bZ sl=>by simp at hi bZ;omega⟩⟩
    · have e:i=0:=by simp at hi;exact hi
      subst e
      intro j v bZ
      have hc:w.cell? ⟨β k,0+0*GT.width α+j,none⟩=some v:=by
        unfold World.cell?
        rw [se]
        have Bc:(GT.cells x p)[j]? =some v:=bZ
        simp [Bc]
      exact hc
    · have e:i=0:=by simp at hi;exact hi
      subst e
      exact hx
  · subst h;exact S.new k pz
  · subst an;exact(S.sep _ h1).2.2 k pz rfl
theorem aj.acg (S:aj P n w0 M u N β σ a w) {G:Prop} {α:Type} [GT α] (k:Nat) {x:α} {p:GT.Ptr α} {uL:au} (hx:ad w0 M u N uL x p)
    (K:∀(cL:Nat->Nat) (aB:au) (b:Nat) (F:au),aj P n w0 M w aB cL (σ.nU k b) a w->(∀b,N b->aB b/\w.heap[b]? =u.heap[b]?)->ad w0 M w aB F [x] (dC b p)->(∀H:au,J H uL->(∀b,H b->N b)->J H F)->G)
    (hk:σ.aM[k]? =some (GT.cells x p):=by kernel_rfl):G:=by
  have pz:k<σ.aM.length:=(List.getElem?_eq_some_iff.1 hk).1
  obtain⟨T,se⟩:=S.box k _ hk
  have hb:β k<w.heap.size:=by
    rcases Nat.lt_or_ge (β k) w.heap.size with hl|hl
    · exact hl
    · rw [Array.getElem?_eq_none hl] at se;cases se
  have hlen:(σ.aM.eraseIdx k).length=σ.aM.length-1:=List.length_eraseIdx_of_lt pz
  have l1:∀i,i<(σ.aM.eraseIdx k).length->(bif Nat.blt i k then i else i+1)<σ.aM.length/\(bif Nat.blt i k then i else i+1)≠k:=fun i hi=>by
    rw [hlen] at hi
    cases h:Nat.blt i k with
    |true=>have:=(Nat.le_of_ble_eq_true h:i+1<=k);exact⟨by simp only [cond_true];omega,by simp only [cond_true];omega⟩
    |false=>
      have:¬i<k:=fun aX=>by rw [show Nat.blt i k=true from Nat.ble_eq_true_of_le aX] at h;cases h
      exact⟨by simp only [cond_false];omega,by simp only [cond_false];omega⟩
  have Kk:=GT.len x p
  refine K (fun i=>β (bif Nat.blt i k then i else i+1)) (fun b=>N b\/b=β k) (β k) (fun b=>b=β k\/uL b) ⟨S.ml,S.aW,fun t s bx=>?_,fun t i o bx=>?_,fun i cs hi=>?_,fun i j hi bZ h=>?_,fun i hi=>?_,fun b eU=>?_,S.fu,fun b eU hm=>?_⟩ (fun b eU=>⟨.inl eU,(S.sep b eU).2.1⟩) ⟨?_,fun b h=>h.elim .inr (fun h=> .inl (hx.sub b h)),fun b h=>?_⟩ (fun H cn a8 b h1 an=>?_)
  · rw [show(σ.nU k (β k)).env=tu k (β k) σ.env from rfl,BB] at bx
    cases hs:look σ.env t with
    |none=>rw [hs] at bx;cases bx
    |some gd=>
      rw [hs] at bx
      simp only [Option.map_some,Option.some.injEq] at bx
      subst bx
      rw [S.env t gd hs]
      congr 1
      cases gd with
      |v x=>rfl
      |p j o=>
        simp only [x9]
        cases he:Nat.beq j k with
        |true=>rw [Nat.eq_of_beq_eq_true he];rfl
        |false=>
          have sm:j≠k:=fun e=>by rw [e,Nat.beq_refl] at he;cases he
          simp only [cond_false,eQ.val]
          cases hl:Nat.blt k j with
          |true=>
            have h1:k<j:=Nat.le_of_ble_eq_true hl
            have an:Nat.blt (j-1) k=false:=by
              cases aF:Nat.blt (j-1) k with
              |false=>rfl
              |true=>have:=(Nat.le_of_ble_eq_true aF:j-1+1<=k);omega
            simp only [cond_true,an,cond_false]
            rw [show j-1+1=j by omega]
          |false=>
            have h1:¬k<j:=fun aX=>by rw [show Nat.blt k j=true from Nat.ble_eq_true_of_le aX] at hl;cases hl
            have an:Nat.blt j k=true:=Nat.ble_eq_true_of_le (by omega:j+1<=k)
            simp only [cond_false,an,cond_true]
  · rw [show(σ.nU k (β k)).env=tu k (β k) σ.env from rfl,BB] at bx
    show i<(σ.aM.eraseIdx k).length
    cases hs:look σ.env t with
    |none=>rw [hs] at bx;cases bx
    |some gd=>
      rw [hs] at bx
      simp only [Option.map_some,Option.some.injEq] at bx
      cases gd with
      |v x=>cases bx
      |p j jw=>
        have bZ:=S.ok t j jw hs
        simp only [x9] at bx
        cases he:Nat.beq j k with
        |true=>rw [he] at bx;cases bx
        |false=>
          have sm:j≠k:=fun e=>by rw [e,Nat.beq_refl] at he;cases he
          rw [he] at bx
          simp only [cond_false,eQ.p.injEq] at bx
          rw [hlen,←bx.1]
          cases hl:Nat.blt k j with
          |true=>simp only [cond_true];have:=(Nat.le_of_ble_eq_true hl:k+1<=j);omega
          |false=>
            have h1:¬k<j:=fun aX=>by rw [show Nat.blt k j=true from Nat.ble_eq_true_of_le aX] at hl;cases hl
            simp only [cond_false];omega
  · have hF:(σ.aM.eraseIdx k)[i]? =some cs:=hi
    rw [List.getElem?_eraseIdx] at hF
    cases h:Nat.blt i k with
    |true=>
      rw [if_pos (show i<k from Nat.le_of_ble_eq_true h)] at hF
      obtain⟨oh,cl⟩:=S.box i cs hF
      exact⟨oh,by simpa only [h,cond_true] using cl⟩
    |false=>
      have:¬i<k:=fun aX=>by rw [show Nat.blt i k=true from Nat.ble_eq_true_of_le aX] at h;cases h
      rw [if_neg this] at hF
      obtain⟨oh,cl⟩:=S.box (i+1) cs hF
      exact⟨oh,by simpa only [h,cond_false] using cl⟩
  · have e:=S.inj _ _ (l1 i hi).1 (l1 j bZ).1 h
    have mV:=(l1 i hi).2
    have lf:=(l1 j bZ).2
    revert e mV lf
    cases h1:Nat.blt i k<;>cases an:Nat.blt j k<;>simp only [cond_true,cond_false]<;>intro e mV lf
    · omega
    · have:=(Nat.le_of_ble_eq_true an:j+1<=k)
      have:¬i<k:=fun aX=>by rw [show Nat.blt i k=true from Nat.ble_eq_true_of_le aX] at h1;cases h1
      omega
    · have:=(Nat.le_of_ble_eq_true h1:i+1<=k)
      have:¬j<k:=fun aX=>by rw [show Nat.blt j k=true from Nat.ble_eq_true_of_le aX] at an;cases an
      omega
    · exact e
  · exact S.new _ (l1 i hi).1
  · rcases eU with h|h
    · exact⟨(S.sep b h).1,rfl,fun i hi=>(S.sep b h).2.2 _ (l1 i hi).1⟩
    · subst h
      exact⟨hb,rfl,fun i hi e=>(l1 i hi).2 (S.inj _ _ (l1 i hi).1 pz e)⟩
  · have h:=S.k8 b eU hm
    exact⟨.inl h.1,(S.sep b h.1).2.1.trans h.2⟩
  · show g4 b6 _ w [x] (dC (β k) p)
    refine⟨by simp [b6],Nat.le_refl _,by simp [dC],fun h=>(by cases h),fun _=>⟨.inl rfl,_,T,se,by simp [dC,Kk]⟩,fun i hi=>?_,⟨fun _=>uL,fun i hi=>?_,fun _ _ b h=>⟨.inr h,fun e=>(S.sep b (hx.sub b h)).2.2 k pz e.symm⟩,fun i j hi bZ sl=>by simp at hi bZ;omega⟩⟩
    · have e:i=0:=by simp at hi;exact hi
      subst e
      intro j v bZ
      have hc:w.cell? ⟨β k,0+0*GT.width α+j,none⟩=some v:=by
        unfold World.cell?
        rw [se]
        have Bc:(GT.cells x p)[j]? =some v:=bZ
        simp [Bc]
      exact hc
    · have e:i=0:=by simp at hi;exact hi
      subst e
      exact S.fP hx
  · rcases h with h|h
    · subst h;exact S.new k pz
    · exact hx.dM b h
  · rcases an with an|an
    · subst an;exact(S.sep _ (a8 _ h1)).2.2 k pz rfl
    · exact cn b h1 an
def uN {α:Type} [GT α] (kv F:au) (w:World) (r:α) (e:Ending) (w':World):Prop:=
  ∃q bU,e= .returned (GT.val r q)/\bB kv w w'/\GT.own b6 bU w' r q/\∀b,bU b->F b\/(w.heap.size<=b/\b<w'.heap.size)
theorem aj.aaw {α gD:Type} [GT α] [GT gD] {F:au} {x:α} {p:GT.Ptr α} (S:aj P n w0 M u N β σ a w) (o:ad w0 M u N F x p) {i:Nat} {f:FuncId} {eN:List Value} {d:Tmp} {r:gD} (hc:Calls P f eN.toArray w (uN F F w r))
    (K:∀a1 w' aB q bU,aj P n w0 M w' aB β ⟨(d,.v (GT.val r q))::σ.env,σ.aM⟩ a1 w'->(∀b,N b->¬F b->aB b/\w'.heap[b]? =u.heap[b]?)->ad w0 M w' aB bU r q->(∀G:au,J G F->(∀b,G b->N b)->J G bU)->dh a1 w')
    (hcall:kz P n ops i σ=some (f,eN,d):=by kernel_rfl) (hd:Nat.blt d n=true:=by kernel_rfl):wpOp P ops Q i dh a w:=
  S.call hcall hc fun _ w' ⟨q,bU,he,fp,bN,bc⟩=>⟨_,he,K _ w' _ q bU ((S.qQ fp o.sub o.dM).put (wq hd) (fun _ _ e=>by cases e)) (S.bk fp)
    ⟨bN,fun b h=>(bc b h).elim (fun h=> .inl (o.sub b h)) .inr,fun b h=>(bc b h).elim (o.dM b) (fun h=> .inl (Nat.le_trans S.fu.size h.1))⟩
    (fun G cn a8 b h1 an=>(bc b an).elim (cn b h1) (fun h=>by have:=(S.sep b (a8 b h1)).1;omega))⟩
theorem aj.aay {α gD:Type} [GT α] [GT gD] {F:au} {x:α} {p:GT.Ptr α} (S:aj P n w0 M u N β σ a w) (o:ad w0 M u N F x p) {i:Nat} {f:FuncId} {eN:List Value} {d:Tmp} {r Y:gD} (hY:Y=r) (hc:Calls P f eN.toArray w (uN F F w r))
    (K:∀a1 w' aB q bU,aj P n w0 M w' aB β ⟨(d,.v (GT.val Y q))::σ.env,σ.aM⟩ a1 w'->(∀b,N b->¬F b->aB b/\w'.heap[b]? =u.heap[b]?)->ad w0 M w' aB bU Y q->(∀G:au,J G F->(∀b,G b->N b)->J G bU)->dh a1 w')
    (hcall:kz P n ops i σ=some (f,eN,d):=by kernel_rfl) (hd:Nat.blt d n=true:=by kernel_rfl):wpOp P ops Q i dh a w:=by
  subst hY;exact S.aaw o hc K hcall hd
theorem Cs {α:Type} [GT α] {F bU:au} {r x:α} {p:GT.Ptr α} {v:Value} (S:aj P n w0 M u N β σ a w) (h:r=x) (b2:v=GT.val x p) (o:ad w0 F u N bU x p):uN M F w0 r (.returned (packed [v])) w:=by
  subst h b2
  exact⟨p,bU,rfl,S.fu,GT.b8 o.own (fun b hb _=>(S.sep b (o.sub b hb)).2.1),fun b hb=>(o.dM b hb).elim (fun h=> .inr ⟨h,(S.sep b (o.sub b hb)).1⟩) .inl⟩
def amn {α gD C1:Type} [GT α] [GT gD] [GT C1] (F:au) (b5:aD C1) (w:World) (r:α) (r':gD) (Lv:C1) (e:Ending) (w':World):Prop:=
  ∃(q:GT.Ptr α) (ji:GT.Ptr gD) (cd br:au) (cx:Nat->GT.Ptr C1),e= .returned (.tuple #[GT.val r q,GT.val r' ji])/\bB F w w'/\GT.own b6 cd w' r q/\GT.own b6 br w' r' ji/\(∀b,cd b->w.heap.size<=b/\b<w'.heap.size)/\GT.own b6 F w' [Lv] ((b5.1,cx):aD C1)
def s7 {α:Type} [GT α] (cf:GT.Ptr α->GT.Ptr α->Prop) (F:au) (b5:aD α) (w:World) (v:Value) (cl:α) (e:Ending) (w':World):Prop:=
  ∃(cx:Nat->GT.Ptr α) (bU:au),e= .returned v/\bB F w w'/\GT.own b6 bU w' [cl] ((b5.1,cx):aD α)/\(∀b,bU b->F b\/(w.heap.size<=b/\b<w'.heap.size))/\cf (b5.2 0) (cx 0)
def am7 (P:Program) (ops:Array Oper) (i:Nat) (σ:b3):Option (FuncId×List Value):=
  match ops.toList[i]? with
  |some o=>
    match oy ops σ o,o.op,o.dst with
    |some true,.call ⟨.value (.func f),args,_⟩,none=>bif callee P f then(mQ σ args.toList).map fun l=>(f,l) else none
    |_,_,_=>none
  |none=>none
theorem aj.aav {α:Type} [GT α] {cf:GT.Ptr α->GT.Ptr α->Prop} {F:au} {x:α} {b5:aD α} (S:aj P n w0 M u N β σ a w) (o:ad w0 M u N F [x] b5) {i:Nat} {f:FuncId} {eN:List Value} {d:Tmp} {v:Value} {h2:α} (hc:Calls P f eN.toArray w (s7 cf F b5 w v h2))
    (K:∀lf w' aB cx bU,aj P n w0 M w' aB β ⟨(d,.v v)::σ.env,σ.aM⟩ lf w'->(∀b,N b->¬F b->aB b/\w'.heap[b]? =u.heap[b]?)->ad w0 M w' aB bU [h2] ((b5.1,cx):aD α)->(∀G:au,J G F->(∀b,G b->N b)->J G bU)->cf (b5.2 0) (cx 0)->dh lf w')
    (hcall:kz P n ops i σ=some (f,eN,d):=by kernel_rfl) (hd:Nat.blt d n=true:=by kernel_rfl):wpOp P ops Q i dh a w:=
  S.call hcall hc fun _ w' ⟨cx,bU,he,fp,bN,bc,vu⟩=>⟨_,he,K _ w' _ cx bU ((S.qQ fp o.sub o.dM).put (wq hd) (fun _ _ e=>by cases e)) (S.bk fp)
    ⟨bN,fun b h=>(bc b h).elim (fun h=> .inl (o.sub b h)) .inr,fun b h=>(bc b h).elim (o.dM b) (fun h=> .inl (Nat.le_trans S.fu.size h.1))⟩
    (fun G cn a8 b h1 an=>(bc b an).elim (cn b h1) (fun h=>by have:=(S.sep b (a8 b h1)).1;omega)) vu⟩
theorem uo {α:Type} [GT α] {cf:GT.Ptr α->GT.Ptr α->Prop} {F bU:au} {cl x:α} {b5:aD α} {cx:Nat->GT.Ptr α} {v:Value} (S:aj P n w0 F u N β σ a w) (h:cl=x) (vu:cf (b5.2 0) (cx 0)) (o:ad w0 F u N bU [x] ((b5.1,cx):aD α)):s7 cf F b5 w0 v cl (.returned v) w:=by
  subst h
  exact⟨cx,bU,rfl,S.fu,GT.b8 o.own (fun b hb _=>(S.sep b (o.sub b hb)).2.1),fun b hb=>(o.dM b hb).elim (fun h=> .inr ⟨h,(S.sep b (o.sub b hb)).1⟩) .inl,vu⟩
end
end Go.Proofs.YtjlocpdfcanlhaaGreat
namespace Go.Proofs.YtjlocpdfcanlhaaGreat
open Go
set_option linter.unusedVariables false
section
variable {P:Program} {ops:Array Oper} {cf:Act->World->Prop} {C:World->Prop} {st:Nat}
theorem ar.abX {i:Nat} {nq:Oper} {v:Value} (hi:ops[i]? =some nq) (Bm:Region.noSelect ops=true) (v5:i≠st):
    ∀
      (f:Nat) (ca:Array Bool) (a:Act) (w:World),
      (∀j nr,ops[j]? =some nr->j≠i->ca.getD j true=false->(∀e∈nr.after,Region.binds .any e=true->e.on≠i)->nq.apart ops nr=true)->
      i∈Region.ready .any ops ca->YieldsIf P ops (fun _=>True) nq v a->(ca.getD st false=false->C w)->
      ar P ops cf st C f (ca.setIfInBounds i true) (a.put nq.dst v) w->ar P ops cf st C (f+1) ca a w:=by
  intro f
  have Kb:∀c a w,ld cf (.panic c) (a.put nq.dst v) w->ld cf (.panic c) a w:=fun _ _ _ h=>(by cases h.1)
  have CX:∀(ca:Array Bool),i∈Region.ready .any ops ca->ca.getD i false=false:=fun ca bp=>by
    have h0:=(mem_ready.1 bp).1
    rcases Nat.lt_or_ge i ca.size with cl|cl
    · simp [cl] at h0 ⊢;exact h0
    · simp [Array.getElem?_eq_none cl]
  induction f with
  |zero=>
    intro ca a w _ bp hy bj H
    refine⟨fun h=>(by rw [h] at bp;cases bp),fun j bZ=>?_⟩
    by_cases lr:j=i
    · subst lr;exact hy.wpOp hi trivial ⟨fun h=>bj (by rwa [getD_set_ne false v5] at h),H⟩
    · have:=ready_mono bZ lr
      rw [H.1] at this
      cases this
  |succ f gj=>
    intro ca a w Bb bp hy bj H
    refine⟨fun h=>(by rw [h] at bp;cases bp),fun j bZ=>?_⟩
    by_cases lr:j=i
    · subst lr;exact hy.wpOp hi trivial ⟨fun h=>bj (by rwa [getD_set_ne false v5] at h),H⟩
    have h1:=H.2 j (ready_mono bZ lr)
    obtain⟨Bd,nr,v9,pw⟩:=mem_ready.1 bZ
    have Ka:∀e∈nr.after,Region.binds .any e=true->e.on≠i:=fun e he hb heq=>by
      have an:=pw e he hb
      rw [heq,CX ca bp] at an
      cases an
    have an:=wpOp_putIf v9 (Bb j nr v9 lr Bd Ka) (fun cs b=>Region.noSelect_spec Bm i nq cs b hi) (fun cs b=>Region.noSelect_spec Bm j nr cs b v9) Kb hy h1
    have JN:∀k ok,ops[k]? =some ok->k≠i->(ca.setIfInBounds j true).getD k true=false->(∀e∈ok.after,Region.binds .any e=true->e.on≠i)->nq.apart ops ok=true:=fun k ok hk JT hu J_=>by
      refine Bb k ok hk JT ?_ J_
      by_cases sm:j=k
      · subst sm;exact Bd
      · rwa [getD_set_ne true sm] at hu
    refine wpOp_mono (fun a1 w' aF=>?_) an
    obtain⟨b1,bm,cS⟩:=aF
    have AJ:(ca.setIfInBounds j true).getD st false=false->C w':=fun h=>bm (by
      rw [Array.setIfInBounds_comm _ _ (Ne.symm lr),getD_set_ne false v5];exact h)
    rw [Array.setIfInBounds_comm _ _ (Ne.symm lr)] at cS
    exact⟨AJ,gj (ca.setIfInBounds j true) a1 w' JN (ready_mono bp (Ne.symm lr)) b1 AJ cS⟩
end
section
variable {P:Program} {n:Nat} {w0:World} {M:au} {u:World} {N:au} {β:Nat->Nat} {σ σ':b3} {a:Act} {w:World} {ops:Array Oper} {cf:Act->World->Prop} {C:World->Prop} {st:Nat}
def y2 (β:Nat->Nat):Env->Env
  |[]=>[]
  |(t,s)::r=>(t,.v (s.val β))::y2 β r
def b3.pl (σ:b3) (β:Nat->Nat):b3:=⟨y2 β σ.env,[]⟩
theorem Lj {t:Nat}:∀(e:Env),look (y2 β e) t=(look e t).map fun s=> .v (s.val β)
  |
    []=>rfl
  |(s,x)::r=>by
    simp only [y2,pE]
    split
    · rfl
    · exact Lj r
theorem aj.Xs (S:aj P n w0 M u N β σ a w) (w':World):aj P n w' (fun _=>True) w' ab β (σ.pl β) a w':=by
  refine⟨S.ml,S.aW,fun t s bx=>?_,fun t k o bx=>?_,fun k cs hk=>by simp [b3.pl] at hk,fun _ _ bZ=>by simp [b3.pl] at bZ,fun _ hk=>by simp [b3.pl] at hk,fun b hb=>False.elim hb,bB.refl _ _,fun b _ hm=>absurd trivial hm⟩
  · rw [show(σ.pl β).env=y2 β σ.env from rfl,Lj] at bx
    cases hs:look σ.env t with
    |none=>rw [hs] at bx;cases bx
    |some gd=>
      rw [hs] at bx
      simp only [Option.map_some,Option.some.injEq] at bx
      subst bx
      exact S.env t gd hs
  · rw [show(σ.pl β).env=y2 β σ.env from rfl,Lj] at bx
    cases hs:look σ.env t with
    |none=>rw [hs] at bx;cases bx
    |some gd=>rw [hs] at bx;simp at bx
def F2 (P:Program) (ops:Array Oper) (β:Nat->Nat) (σ:b3) (i:Nat):Bool:=
  match ops[i]? with
  |some o=>
    match oy ops σ o with
    |some false=>true
    |some true=>match tZ P (σ.pl β) o,tZ P σ o with
      |some (.val _),some (.val _)=>true
      |_,_=>false
    |none=>false
  |none=>false
def Cd (ops:Array Oper) (st:Nat) (ca:Array Bool) (i:Nat):Bool:=
  Region.noSelect ops&&Region.free .any ops ca i&&(Region.ready .any ops ca).contains i&& !Nat.beq i st
theorem aj.afd (S:aj P n w0 M u N β σ a w) {i f:Nat} {ca:Array Bool} (aX:Cd ops st ca i=true) (bC:F2 P ops β σ i=true) (bj:ca.getD st false=false->C w) (bW:gF P n ops ((ops.toList.drop i).take 1) σ []=some (σ',[]))
    (K:∀a1,aj P n w0 M u N β σ' a1 w->ar P ops cf st C f (ca.setIfInBounds i true) a1 w):ar P ops cf st C (f+1) ca a w:=by
  unfold F2 at bC
  split at bC
  · rename_i o bN
    have eW:i<ops.size:=(Array.getElem?_eq_some_iff.1 bN).1
    have hl:(ops.toList.drop i).take 1=[o]:=by
      rw [List.drop_eq_getElem_cons (show i<ops.toList.length by simpa using eW)]
      have:=(Array.getElem?_eq_some_iff.1 bN).2
      simp [←this]
    rw [hl] at bW
    simp only [Cd,Bool.and_eq_true,Bool.not_eq_true'] at aX
    obtain⟨⟨⟨hP,m2⟩,p0⟩,pb⟩:=aX
    have v5:i≠st:=fun e=>by rw [e,Nat.beq_refl] at pb;cases pb
    have fin:∀v,YieldsIf P ops (fun _=>True) o v a->aj P n w0 M u N β σ' (a.put o.dst v) w->ar P ops cf st C (f+1) ca a w:=fun v hy iv=>
      ar.abX bN hP v5 f ca a w (Region.free_spec bN m2) (by simpa using p0) hy bj (K _ iv)
    simp only [gF] at bW
    split at bW
    · cases bW
    · rename_i aJ
      cases ij:σ.put n o.dst (.v undef) with
      |none=>rw [ij] at bW;cases bW
      |some GF=>
        rw [ij] at bW
        simp only [Option.bind_some,Option.some.injEq,Prod.mk.injEq,and_true] at bW
        subst bW
        exact fin undef (.inr ⟨mw S aJ,rfl⟩) (S.put ij (fun _ _ e=>by cases e))
    · rename_i aJ
      simp only [aJ] at bC
      have hw:=mw S aJ
      split at bC
      · rename_i GB Ws wi yL
        have oI:∀w',(execOp a.eval o).run P w'= .ok (.value (GB.val β)) w':=fun w'=>(l_ (S.Xs w') wi).1
        split at bW
        · cases bW
        · rename_i x hx
          cases ij:σ.put n o.dst x with
          |none=>rw [ij] at bW;cases bW
          |some GF=>
            rw [ij] at bW
            simp only [Option.bind_some,Option.some.injEq,Prod.mk.injEq,and_true] at bW
            subst bW
            have h1:=(l_ S hx).1
            rw [oI w] at h1
            have e:GB.val β=x.val β:=by
              injection h1 with h1 _
              injection h1
            exact fin (x.val β) (.inl ⟨hw,fun w' _=>e▸oI w'⟩) (S.put ij (l_ S hx).2)
        · rename_i h0;rw [h0] at yL;cases yL
        · rename_i h0;rw [h0] at yL;cases yL
        · rename_i h0;rw [h0] at yL;cases yL
      · cases bC
  · cases bC
def b3.xC (σ:b3) (dL:List Nat) (new:Env):b3:=⟨σ.keep 1000 (rI σ.env dL new)++new,σ.aM⟩
theorem aj.a9 {aM:List (List Value)} (S:aj P n w0 M u N β σ a w) {f:Nat} {ca:Array Bool} (i:Nat) (path:List Nat) (dL:List Nat) (new:Env) {claims:List (Ask×Value)} (a9:fA P u N claims)
    (K:∀a1,aj P n w0 M u N β (σ.xC dL new) a1 w->ar P ops cf st (fh w0 M u N β aM) f (ca.setIfInBounds i true) a1 w)
    (jJ:σ.aM=aM:=by kernel_rfl) (aX:Bj ops st ca i path=true:=by kernel_rfl) (qi:zQ P ops σ i=true:=by kernel_rfl)
    (bW:nN P n ops i 1 σ (claims.map (·.2)) (rI σ.env dL new++mG new) 1000=some (σ.xC dL new,claims):=by kernel_rfl):ar P ops cf st (fh w0 M u N β aM) (f+1) ca a w:=by
  subst jJ
  exact S.hoist aX qi a9 bW K
theorem aj.um {aM:List (List Value)} (S:aj P n w0 M u N β σ a w) (jJ:σ.aM=aM:=by kernel_rfl):fh w0 M u N β aM w:=jJ▸S.rc
def ra (l:Array Bool):List Nat->Array Bool
  |[]=>l
  |i::r=>ra (l.setIfInBounds i true) r
theorem xZ:∀(r:List Oper) (σ:b3) (c7:List Value) (z:b3×List (Ask×Value)),gF P n ops r σ c7=some z->gF P n ops r σ (z.2.map (·.2))=some z
  |
    [],σ,c7,z,h=>by
    simp only [gF,Option.some.injEq] at h ⊢
    subst h;rfl
  |o::r,σ,c7,z,h=>by
    unfold gF at h ⊢
    split at h
    · cases h
    · rw [Option.bind_eq_some_iff] at h ⊢
      obtain⟨σ',h1,an⟩:=h
      exact⟨σ',h1,xZ r σ' c7 z an⟩
    · split at h
      · cases h
      · rw [Option.bind_eq_some_iff] at h ⊢
        obtain⟨σ',h1,an⟩:=h
        exact⟨σ',h1,xZ r σ' c7 z an⟩
      · split at h
        · cases h
        · rw [Option.bind_eq_some_iff] at h
          obtain⟨σ',h1,an⟩:=h
          rw [Option.map_eq_some_iff] at an
          obtain⟨x,aF,b1⟩:=an
          subst b1
          simp only [List.map_cons]
          rw [h1]
          simp only [Option.bind_some,xZ r σ' _ x aF,Option.map_some]
      · rw [Option.bind_eq_some_iff] at h ⊢
        obtain⟨σ',h1,an⟩:=h
        exact⟨σ',h1,xZ r σ' c7 z an⟩
      · split at h
        · exact xZ r _ c7 z h
        · cases h
def Qz (ops:Array Oper) (i:Nat) (l:List Nat):List Nat:=
  match ops[i]? with
  |some o=>match o.dst with
    |some d=>d::l
    |none=>l
  |none=>l
def Bi (P:Program) (n:Nat) (ops:Array Oper) (st:Nat):List Nat->Array Bool->b3->List Value->Option (b3×List (Ask×Value)×List (List (List Value)))
  |
    [],_,σ,_=>some (σ,[],[])
  |i::is,l,σ,er=>
    bif Bj ops st l i [i]&&zQ P ops σ i then
      match nN P n ops i 1 σ er (Qz ops i (mG σ.env)) 1000 with
      |none=>none
      |some z=>(Bi P n ops st is (l.setIfInBounds i true) z.1 (er.drop z.2.length)).map fun x=>(x.1,z.2++x.2.1,σ.aM::x.2.2)
    else none
theorem fA.app {P:Program} {u:World} {N:au}:∀{l r:List (Ask×Value)},fA P u N (l++r)->fA P u N l/\fA P u N r
  |[],_,h=>⟨trivial,h⟩
  |_::_,_,h=>⟨⟨h.1,(fA.app h.2).1⟩,(fA.app h.2).2⟩
theorem abp {i k:Nat} {c7:List Value} {keep:List Nat} {m:Nat} {z:b3×List (Ask×Value)} (h:nN P n ops i k σ c7 keep m=some z):nN P n ops i k σ (z.2.map (·.2)) keep m=some z:=by
  unfold nN at h ⊢
  cases hb:Nat.ble (i+k) ops.size
  · rw [hb] at h;cases h
  · rw [hb] at h
    simp only [cond_true,Option.map_eq_some_iff] at h ⊢
    obtain⟨x,h1,an⟩:=h
    subst an
    exact⟨x,xZ _ _ _ x h1,rfl⟩
theorem aj.SZ {aM:List (List Value)}:∀(is:List Nat) (ca:Array Bool) (σ:b3) (er:List Value) (z:b3×List (Ask×Value)×List (List (List Value))) (a:Act) (f:Nat),aj P n w0 M u N β σ a w->Bi P n ops st is ca σ er=some z->fA P u N z.2.1->z.2.2=List.replicate is.length aM->
    (∀a1,aj P n w0 M u N β z.1 a1 w->ar P ops cf st (fh w0 M u N β aM) f (ra ca is) a1 w)->ar P ops cf st (fh w0 M u N β aM) (f+is.length) ca a w
  |
    [],ca,σ,er,z,a,f,S,h,_,_,K=>by
    simp only [Bi,Option.some.injEq] at h
    subst h
    exact K a S
  |i::is,ca,σ,er,z,a,f,S,h,a9,hb,K=>by
    unfold Bi at h
    cases hc:(Bj ops st ca i [i]&&zQ P ops σ i)
    · rw [hc] at h;cases h
    · rw [hc] at h
      simp only [cond_true] at h
      rw [Bool.and_eq_true] at hc
      split at h
      · cases h
      · rename_i y hy
        rw [Option.map_eq_some_iff] at h
        obtain⟨x,h1,an⟩:=h
        subst an
        simp only [List.length_cons,List.replicate_succ,List.cons.injEq] at hb
        obtain⟨Jw,aey⟩:=hb
        subst Jw
        obtain⟨af,gB⟩:=fA.app a9
        exact aj.hoist (keep:=Qz ops i (mG σ.env)) (m:=1000) S hc.1 hc.2 af (abp hy) fun a1 dV=>aj.SZ is _ y.1 _ x a1 f dV h1 gB aey K
theorem aj.hm {aM:List (List Value)} (S:aj P n w0 M u N β σ a w) {f1:Nat} {ca:Array Bool} (f:Nat) (is:List Nat) (dL:List Nat) (new:Env) {claims:List (Ask×Value)} (a9:fA P u N claims)
    (K:∀a1,aj P n w0 M u N β (σ.xC dL new) a1 w->ar P ops cf st (fh w0 M u N β aM) f (ra ca is) a1 w)
    (bW:(Bi P n ops st is ca σ (claims.map (·.2))).map (fun x=>((⟨x.1.keep 1000 (rI σ.env dL new++mG new),x.1.aM.take 1000⟩:b3),x.2))=some (σ.xC dL new,claims,List.replicate is.length aM):=by kernel_rfl) (bc:f1=f+is.length:=by kernel_rfl):ar P ops cf st (fh w0 M u N β aM) f1 ca a w:=by
  subst bc
  rw [Option.map_eq_some_iff] at bW
  obtain⟨x,h1,an⟩:=bW
  simp only [Prod.mk.injEq] at an
  obtain⟨cu,cB⟩:=an
  exact aj.SZ is ca σ _ x a f S h1 (by rw [cB];exact a9) (by rw [cB]) fun a1 dV=>K a1 (cu▸dV.N3 1000 (rI σ.env dL new++mG new))
def ns (eG:List (Nat×Bool)) (i:Nat) (d:Option Nat) (σ:b3):b3×List (Bool×Bool):=
  match Lh eG i,d with
  |some b,some d=>match look σ.env d with
    |some (.v (.bool c))=>(⟨(d,.v (.bool b))::σ.env,σ.aM⟩,[(c,b)])
    |_=>(σ,[])
  |_,_=>(σ,[])
theorem aj.ns (S:aj P n w0 M u N β σ a w) {eG:List (Nat×Bool)} {i:Nat} {d:Option Nat} (h:jT (ns eG i d σ).2):aj P n w0 M u N β (Go.Proofs.YtjlocpdfcanlhaaGreat.ns eG i d σ).1 a w:=by
  unfold Go.Proofs.YtjlocpdfcanlhaaGreat.ns at h ⊢
  split
  · rename_i b d hb
    simp only [hb] at h
    split
    · rename_i c hc
      simp only [hc] at h
      have e:c=b:=h.1
      subst e
      refine⟨S.ml,S.aW,fun t s bx=>?_,fun t k o bx=>?_,S.box,S.inj,S.new,S.sep,S.fu,S.k8⟩
      · rw [pE] at bx
        split at bx
        · rename_i e;subst e
          simp only [Option.some.injEq] at bx
          subst bx
          exact S.env _ _ hc
        · exact S.env t s bx
      · rw [pE] at bx
        split at bx
        · simp only [Option.some.injEq] at bx;cases bx
        · exact S.ok t k o bx
    · exact S
  · exact S
def tg (ops:Array Oper) (i:Nat):Option Nat:=(ops[i]?).bind (·.dst)
def qm (P:Program) (n:Nat) (ops:Array Oper) (st:Nat) (β:Nat->Nat) (eG:List (Nat×Bool)):List Nat->Array Bool->b3->Option (b3×List (Bool×Bool))
  |
    [],_,σ=>some (σ,[])
  |i::r,l,σ=>bif Cd ops st l i&&F2 P ops β σ i then
      match gF P n ops ((ops.toList.drop i).take 1) σ [] with
      |some (bH,[])=>(qm P n ops st β eG r (l.setIfInBounds i true) (ns eG i (tg ops i) bH).1).map fun z=>(z.1,(ns eG i (tg ops i) bH).2++z.2)
      |_=>none
    else none
theorem aj.EF {eG:List (Nat×Bool)}:∀(hs:List Nat) (ca:Array Bool) (σ:b3) (z:b3×List (Bool×Bool)) (a:Act) (f:Nat),aj P n w0 M u N β σ a w->(ca.getD st false=false->C w)->qm P n ops st β eG hs ca σ=some z->jT z.2->
    (∀a1,aj P n w0 M u N β z.1 a1 w->ar P ops cf st C f (ra ca hs) a1 w)->ar P ops cf st C (f+hs.length) ca a w
  |
    [],ca,σ,z,a,f,S,bj,h,hb,K=>by
    simp only [qm,Option.some.injEq] at h
    subst h
    exact K a S
  |i::r,ca,σ,z,a,f,S,bj,h,nZ,K=>by
    simp only [qm] at h
    cases hb:(Cd ops st ca i&&F2 P ops β σ i) with
    |false=>rw [hb] at h;cases h
    |true=>
      rw [hb] at h
      simp only [cond_true] at h
      simp only [Bool.and_eq_true] at hb
      split at h
      · rename_i bH he
        refine S.afd hb.1 hb.2 bj he fun mV iv=>?_
        have v5:i≠st:=fun e=>by
          have b1:=hb.1
          simp only [Cd,Bool.and_eq_true,Bool.not_eq_true'] at b1
          rw [e,Nat.beq_refl] at b1
          cases b1.2
        cases ej:qm P n ops st β eG r (ca.setIfInBounds i true) (Go.Proofs.YtjlocpdfcanlhaaGreat.ns eG i (tg ops i) bH).1 with
        |none=>rw [ej] at h;cases h
        |some GD=>
          rw [ej] at h
          simp only [Option.map_some,Option.some.injEq] at h
          subst h
          exact aj.EF r _ _ GD mV f (iv.ns nZ.left) (fun cl=>bj (by rwa [getD_set_ne false v5] at cl)) ej nZ.right K
      · cases h
theorem aj.akY {W:Nat->Array Bool->Act->World->Prop} (S:aj P n w0 M u N β σ a w) (aG:W=ar P ops cf st C) (hs:List Nat) (eG:List (Nat×Bool)) {np:List (Bool×Bool)} {f f1:Nat} {l l2:Array Bool} (bj:l.getD st false=false->C w) (nZ:jT np)
    (K:∀a1,aj P n w0 M u N β σ' a1 w->W f l2 a1 w)
    (bW:((qm P n ops st β eG hs l σ).bind fun s=>(ru s.1 (mG σ'.env) σ'.aM.length).map fun x=>(x,s.2))=some (σ',np):=by kernel_rfl) (hl:ra l hs=l2:=by kernel_rfl) (bc:f1=f+hs.length:=by kernel_rfl):ar P ops cf st C f1 l a w:=by
  subst bc aG hl
  cases he:qm P n ops st β eG hs l σ with
  |none=>rw [he] at bW;cases bW
  |some s=>
    rw [he] at bW
    simp only [Option.bind_some] at bW
    cases bC:ru s.1 (mG σ'.env) σ'.aM.length with
    |none=>rw [bC] at bW;cases bW
    |some x=>
      rw [bC] at bW
      simp only [Option.map_some,Option.some.injEq,Prod.mk.injEq] at bW
      obtain⟨cu,cB⟩:=bW
      subst cu
      exact aj.EF hs l σ s a f S bj he (cB▸nZ) fun a1 dV=>K a1 (dV.prune bC)
theorem aj.cX {W:Nat->Array Bool->Act->World->Prop} (S:aj P n w0 M u N β σ a w) (aG:W=ar P ops cf st C) (hs:List Nat) {f f1:Nat} {l l2:Array Bool} (bj:l.getD st false=false->C w)
    (K:∀a1,aj P n w0 M u N β σ' a1 w->W f l2 a1 w)
    (bW:((qm P n ops st β [] hs l σ).bind fun s=>(ru s.1 (mG σ'.env) σ'.aM.length).map fun x=>(x,s.2))=some (σ',[]):=by kernel_rfl) (hl:ra l hs=l2:=by kernel_rfl) (bc:f1=f+hs.length:=by kernel_rfl):ar P ops cf st C f1 l a w:=S.akY aG hs [] bj .nil K bW hl bc
abbrev d_ (bt:au) (bw:World) (N:au) (u:World):Prop:=∀b,bt b->N b/\u.heap[b]? =bw.heap[b]?
abbrev cR (m:Nat) (bP β:Nat->Nat):Prop:=∀k,k<m->β k=bP k
theorem ar.V8 {bw:World} {bt:au} {bP:Nat->Nat} {aM:List (List Value)} {f:Nat} {l:Array Bool} (S:aj P n w0 M u N β σ a w) (up:d_ bt bw N u) (mB:cR aM.length bP β) (jJ:σ.aM.take aM.length=aM)
    (h:fh w0 M bw bt bP aM w->ar P ops cf st (fh w0 M bw bt bP aM) f l a w):(l.getD st false=false->fh w0 M bw bt bP aM w)/\ar P ops cf st (fh w0 M bw bt bP aM) f l a w:=by
  have bj:fh w0 M bw bt bP aM w:=⟨fun k cs hk=>by
      have eW:=(List.getElem?_eq_some_iff.1 hk).1
      rw [←mB k eW]
      refine S.box k cs ?_
      rw [←jJ,List.getElem?_take_of_lt eW] at hk
      exact hk,fun b hb=>⟨(S.sep b (up b hb).1).1,((S.sep b (up b hb).1).2.1).trans (up b hb).2⟩,S.fu⟩
  exact⟨fun _=>bj,h bj⟩
def xX (P:Program) (n:Nat) (ops:Array Oper) (i:Nat) (σ:b3) (c7:List Value):Option (b3×List (Ask×Value)):=
  match (ops.toList.drop i).take 1 with
  |[o]=>gF P n ops [o] σ c7
  |_=>none
theorem Q1 {i:Nat} {c7:List Value} {r:b3×List (Ask×Value)} (h:xX P n ops i σ c7=some r):∃o,ops[i]? =some o/\gF P n ops [o] σ c7=some r:=by
  unfold xX at h
  split at h
  · rename_i o bN
    refine⟨o,?_,h⟩
    have h1:((ops.toList.drop i).take 1)[0]? =some o:=by rw [bN];rfl
    rw [List.getElem?_take_of_lt (by omega),List.getElem?_drop] at h1
    simpa using h1
  · cases h
def xY (P:Program) (n:Nat) (ops:Array Oper) (st:Nat) (β:Nat->Nat) (i:Nat) (hs:List Nat) (eG:List (Nat×Bool)) (l:Array Bool) (σ:b3) (c7:List Value) (keep:List Nat) (m:Nat):Option (b3×List (Ask×Value)×List (Bool×Bool)):=
  match xX P n ops i σ c7 with
  |some r=>(qm P n ops st β eG hs (l.setIfInBounds i true) (ns eG i (tg ops i) r.1).1).bind fun s=>(ru s.1 keep m).map fun x=>(x,r.2,(ns eG i (tg ops i) r.1).2++s.2)
  |none=>none
theorem D4 {i:Nat} {hs keep:List Nat} {eG:List (Nat×Bool)} {l:Array Bool} {c7:List Value} {m:Nat} {claims:List (Ask×Value)} {np:List (Bool×Bool)} (h:xY P n ops st β i hs eG l σ c7 keep m=some (σ',claims,np)):
    ∃s1 s2,xX P n ops i σ c7=some (s1,claims)/\qm P n ops st β eG hs (l.setIfInBounds i true) (ns eG i (tg ops i) s1).1=some s2/\ru s2.1 keep m=some σ'/\np=(ns eG i (tg ops i) s1).2++s2.2:=by
  unfold xY at h
  split at h
  · rename_i r bp
    cases an:qm P n ops st β eG hs (l.setIfInBounds i true) (ns eG i (tg ops i) r.1).1 with
    |none=>rw [an] at h;cases h
    |some s2=>
      rw [an] at h
      simp only [Option.bind_some] at h
      cases aF:ru s2.1 keep m with
      |none=>rw [aF] at h;cases h
      |some nC=>
        rw [aF] at h
        simp only [Option.map_some,Option.some.injEq,Prod.mk.injEq] at h
        exact⟨r.1,s2,by rw [bp,←h.2.1],an,by rw [aF,h.1],h.2.2.symm⟩
  · cases h
theorem ar.akw {cL:Nat->Nat} {aM:List (List Value)} {f:Nat} {l:Array Bool} (dV:aj P n w0 M u N cL σ' a w) (mB:∀k,k<σ.aM.length->cL k=β k)
    (h:ar P ops cf st (fh w0 M u N cL σ'.aM) f l a w) (hb:σ.aM=aM:=by kernel_rfl) (jJ:σ'.aM.take aM.length=aM:=by kernel_rfl):(l.getD st false=false->fh w0 M u N β aM w)/\ar P ops cf st (fh w0 M u N β aM) f l a w:=
  ar.stay dV (fun k hk=>mB k (by rw [hb];exact hk)) (fun k cs hk=>by
    have eW:=(List.getElem?_eq_some_iff.1 hk).1
    rw [←jJ,List.getElem?_take_of_lt eW] at hk
    exact hk) h
theorem aj.ak2 {W:Nat->Array Bool->Act->World->Prop} {bw:World} {bt:au} {bP:Nat->Nat} {aM:List (List Value)} (S:aj P n w0 M u N β σ a w) (aG:W=ar P ops cf st (fh w0 M bw bt bP aM)) (up:d_ bt bw N u) (mB:cR aM.length bP β)
    {i:Nat} (hs:List Nat) (eG:List (Nat×Bool)) {np:List (Bool×Bool)} {claims:List (Ask×Value)} (a9:fA P u N claims) (nZ:jT np) {f f1:Nat} {l l2:Array Bool}
    (K:∀a1 w' cL,aj P n w0 M u N cL σ' a1 w'->cR aM.length bP cL->W f l2 a1 w')
    (bW:∀cL,xY P n ops st cL i hs eG l σ (claims.map (·.2)) (mG σ'.env) σ'.aM.length=some (σ',claims,np):=by intro cL;kernel_rfl)
    (jJ:((xX P n ops i σ (claims.map (·.2))).map fun r=>r.1.aM.take aM.length)=some aM:=by kernel_rfl) (JD:Nat.ble aM.length σ.aM.length=true:=by kernel_rfl) (hl:ra (l.setIfInBounds i true) hs=l2:=by kernel_rfl) (bc:f1=f+hs.length:=by kernel_rfl):
    wpOp P ops (ld cf) i (fun a1 w'=>((l.setIfInBounds i true).getD st false=false->fh w0 M bw bt bP aM w')/\ar P ops cf st (fh w0 M bw bt bP aM) f1 (l.setIfInBounds i true) a1 w') a w:=by
  subst bc aG hl
  obtain⟨s1,s2,h1,an,aF,b1⟩:=D4 (bW β)
  obtain⟨o,bN,he⟩:=Q1 h1
  refine IE bN he a9 S fun mV a0 zu iv hb=>?_
  obtain⟨ajD,ND,vi,I_,Ja,Jc⟩:=D4 (bW zu)
  rw [h1] at vi
  simp only [Option.some.injEq,Prod.mk.injEq,and_true] at vi
  subst vi
  have aoI:aM.length<=σ.aM.length:=Nat.le_of_ble_eq_true JD
  have Tp:cR aM.length bP zu:=fun k hk=>(hb k (by omega)).trans (mB k hk)
  rw [h1] at jJ
  simp only [Option.map_some,Option.some.injEq] at jJ
  rw [Jc] at nZ
  exact ar.V8 iv up Tp jJ fun bj=>aj.EF hs _ _ ND mV f (iv.ns nZ.left) (fun _=>bj) I_ nZ.right fun a1 dV=>K a1 a0 zu (dV.prune Ja) Tp
theorem aj.ak0 {W:Nat->Array Bool->Act->World->Prop} (S:aj P n w0 M u N β σ a w) (aG:W=ar P ops cf st C)
    {i:Nat} (hs:List Nat) (eG:List (Nat×Bool)) {np:List (Bool×Bool)} {claims:List (Ask×Value)} (a9:fA P u N claims) (nZ:jT np) {f f1:Nat} {l l2:Array Bool}
    (K:∀a1 w' cL,aj P n w0 M u N cL σ' a1 w'->W f l2 a1 w')
    (bW:∀cL,xY P n ops st cL i hs eG l σ (claims.map (·.2)) (mG σ'.env) σ'.aM.length=some (σ',claims,np):=by intro cL;kernel_rfl)
    (nd:(l.setIfInBounds i true).getD st false=true:=by kernel_rfl) (hl:ra (l.setIfInBounds i true) hs=l2:=by kernel_rfl) (bc:f1=f+hs.length:=by kernel_rfl):
    wpOp P ops (ld cf) i (fun a1 w'=>((l.setIfInBounds i true).getD st false=false->C w')/\ar P ops cf st C f1 (l.setIfInBounds i true) a1 w') a w:=by
  subst bc aG hl
  obtain⟨s1,s2,h1,an,aF,b1⟩:=D4 (bW β)
  obtain⟨o,bN,he⟩:=Q1 h1
  refine IE bN he a9 S fun mV a0 zu iv hb=>?_
  obtain⟨ajD,ND,vi,I_,Ja,Jc⟩:=D4 (bW zu)
  rw [h1] at vi
  simp only [Option.some.injEq,Prod.mk.injEq,and_true] at vi
  subst vi
  rw [Jc] at nZ
  have bj:(l.setIfInBounds i true).getD st false=false->C a0:=fun h=>by rw [nd] at h;cases h
  exact⟨bj,aj.EF hs _ _ ND mV f (iv.ns nZ.left) bj I_ nZ.right fun a1 dV=>K a1 a0 zu (dV.prune Ja)⟩
theorem aj.e_ {W:Nat->Array Bool->Act->World->Prop} {bw:World} {bt:au} {bP:Nat->Nat} {aM:List (List Value)} (S:aj P n w0 M u N β σ a w) (aG:W=ar P ops cf st (fh w0 M bw bt bP aM)) (up:d_ bt bw N u) (mB:cR aM.length bP β)
    {i:Nat} (hs:List Nat) {claims:List (Ask×Value)} (a9:fA P u N claims) {f f1:Nat} {l l2:Array Bool}
    (K:∀a1 w' cL,aj P n w0 M u N cL σ' a1 w'->cR aM.length bP cL->W f l2 a1 w')
    (bW:∀cL,xY P n ops st cL i hs [] l σ (claims.map (·.2)) (mG σ'.env) σ'.aM.length=some (σ',claims,[]):=by intro cL;kernel_rfl)
    (jJ:((xX P n ops i σ (claims.map (·.2))).map fun r=>r.1.aM.take aM.length)=some aM:=by kernel_rfl) (JD:Nat.ble aM.length σ.aM.length=true:=by kernel_rfl) (hl:ra (l.setIfInBounds i true) hs=l2:=by kernel_rfl) (bc:f1=f+hs.length:=by kernel_rfl):
    wpOp P ops (ld cf) i (fun a1 w'=>((l.setIfInBounds i true).getD st false=false->fh w0 M bw bt bP aM w')/\ar P ops cf st (fh w0 M bw bt bP aM) f1 (l.setIfInBounds i true) a1 w') a w:=S.ak2 aG up mB hs [] a9 .nil K bW jJ JD hl bc
theorem aj.wl {W:Nat->Array Bool->Act->World->Prop} (S:aj P n w0 M u N β σ a w) (aG:W=ar P ops cf st C)
    {i:Nat} (hs:List Nat) {claims:List (Ask×Value)} (a9:fA P u N claims) {f f1:Nat} {l l2:Array Bool}
    (K:∀a1 w' cL,aj P n w0 M u N cL σ' a1 w'->W f l2 a1 w')
    (bW:∀cL,xY P n ops st cL i hs [] l σ (claims.map (·.2)) (mG σ'.env) σ'.aM.length=some (σ',claims,[]):=by intro cL;kernel_rfl)
    (nd:(l.setIfInBounds i true).getD st false=true:=by kernel_rfl) (hl:ra (l.setIfInBounds i true) hs=l2:=by kernel_rfl) (bc:f1=f+hs.length:=by kernel_rfl):
    wpOp P ops (ld cf) i (fun a1 w'=>((l.setIfInBounds i true).getD st false=false->C w')/\ar P ops cf st C f1 (l.setIfInBounds i true) a1 w') a w:=S.ak0 aG hs [] a9 .nil K bW nd hl bc
section
variable {W:Nat->Array Bool->Act->World->Prop} {f:Nat} {l:Array Bool}
abbrev qP (P:Program) (ops:Array Oper) (cf:Act->World->Prop) (st:Nat) (C:World->Prop) (f:Nat) (l:Array Bool) (a:Act) (w:World) (i:Nat):Prop:=
  wpOp P ops (ld cf) i (fun a1 w'=>((l.setIfInBounds i true).getD st false=false->C w')/\ar P ops cf st C f (l.setIfInBounds i true) a1 w') a w
theorem eo (aG:W=ar P ops cf st C) (i:Nat) (h:qP P ops cf st C f l a w i) (bp:Region.ready .any ops l=[i]:=by kernel_rfl):W (f+1) l a w:=by
  subst aG;exact ar.one bp h
theorem gA (aG:W=ar P ops cf st C) (i j:Nat) (h:qP P ops cf st C f l a w i) (an:qP P ops cf st C f l a w j) (bp:Region.ready .any ops l=[i,j]:=by kernel_rfl):W (f+1) l a w:=by
  subst aG;exact ar.many bp rfl (List.forall_mem_cons.2 ⟨h,List.forall_mem_cons.2 ⟨an,List.forall_mem_nil _⟩⟩)
theorem rr (aG:W=ar P ops cf st C) (i j k:Nat) (h:qP P ops cf st C f l a w i) (an:qP P ops cf st C f l a w j) (aF:qP P ops cf st C f l a w k) (bp:Region.ready .any ops l=[i,j,k]:=by kernel_rfl):W (f+1) l a w:=by
  subst aG;exact ar.many bp rfl (List.forall_mem_cons.2 ⟨h,List.forall_mem_cons.2 ⟨an,List.forall_mem_cons.2 ⟨aF,List.forall_mem_nil _⟩⟩⟩)
theorem Va (aG:W=ar P ops cf st C) (i j k m:Nat) (h:qP P ops cf st C f l a w i) (an:qP P ops cf st C f l a w j) (aF:qP P ops cf st C f l a w k) (b1:qP P ops cf st C f l a w m) (bp:Region.ready .any ops l=[i,j,k,m]:=by kernel_rfl):W (f+1) l a w:=by
  subst aG;exact ar.many bp rfl (List.forall_mem_cons.2 ⟨h,List.forall_mem_cons.2 ⟨an,List.forall_mem_cons.2 ⟨aF,List.forall_mem_cons.2 ⟨b1,List.forall_mem_nil _⟩⟩⟩⟩)
theorem mL (aG:W=ar P ops cf st C) (h:cf a w) (bp:Region.ready .any ops l=[]:=by kernel_rfl):W f l a w:=by
  subst aG;exact ar.done bp h f
end
theorem ar.c_ {f:Nat} {l:Array Bool} (h:(l.getD st false=false->C w)->ar P ops cf st C f l a w) (nd:l.getD st false=true:=by kernel_rfl):(l.getD st false=false->C w)/\ar P ops cf st C f l a w:=
  ⟨fun h0=>(by rw [nd] at h0;cases h0),h fun h0=>(by rw [nd] at h0;cases h0)⟩
theorem ar.de {bw:World} {bt:au} {bP:Nat->Nat} {aM:List (List Value)} {f:Nat} {l:Array Bool} (S:aj P n w0 M u N β σ a w) (up:d_ bt bw N u) (mB:cR aM.length bP β)
    (h:(l.getD st false=false->fh w0 M bw bt bP aM w)->ar P ops cf st (fh w0 M bw bt bP aM) f l a w) (jJ:σ.aM.take aM.length=aM:=by kernel_rfl):(l.getD st false=false->fh w0 M bw bt bP aM w)/\ar P ops cf st (fh w0 M bw bt bP aM) f l a w:=ar.V8 S up mB jJ fun bj=>h fun _=>bj
end
end Go.Proofs.YtjlocpdfcanlhaaGreat
namespace Go.Proofs.YtjlocpdfcanlhaaGreat
open Go
set_option linter.unusedVariables false
section
variable {P:Program} {n:Nat} {w0:World} {M:au} {u:World} {N:au} {β:Nat->Nat} {σ:b3} {a:Act} {w:World} {ops:Array Oper} {cf:Act->World->Prop} {C:World->Prop} {st:Nat}
theorem aj.iN {aM:List (List Value)} (S:aj P n w0 M u N β σ a w) {f:Nat} {l:Array Bool} (i:Nat) (dL:List Nat) (new:Env) (m:Nat) (pc:List (Nat×List Value)) {claims:List (Ask×Value)} (a9:fA P u N claims)
    (K:∀a1 w' cL,aj P n w0 M u N cL (σ.dl dL new m pc) a1 w'->ar P ops cf st (fh w0 M u N cL (σ.dl dL new m pc).aM) f (l.setIfInBounds i true) a1 w')
    (bW:nN P n ops i 1 σ (claims.map (·.2)) (rI σ.env dL new++mG new) m=some (σ.dl dL new m pc,claims):=by kernel_rfl)
    (hb:σ.aM=aM:=by kernel_rfl) (jJ:(σ.dl dL new m pc).aM.take aM.length=aM:=by kernel_rfl) (bp:Region.ready .any ops l=[i]:=by kernel_rfl):ar P ops cf st (fh w0 M u N β aM) (f+1) l a w:=
  ar.one bp (S.V_ a9 bW fun a1 w' cL dV mB=>ar.akw dV mB (K a1 w' cL dV) hb jJ)
theorem aj.c_ (S:aj P n w0 M u N β σ a w) {f:Nat} {l:Array Bool} (i:Nat) (dL:List Nat) (new:Env) (m:Nat) (pc:List (Nat×List Value)) {claims:List (Ask×Value)} (a9:fA P u N claims)
    (K:∀a1 w' cL,aj P n w0 M u N cL (σ.dl dL new m pc) a1 w'->ar P ops cf st C f (l.setIfInBounds i true) a1 w')
    (bW:nN P n ops i 1 σ (claims.map (·.2)) (rI σ.env dL new++mG new) m=some (σ.dl dL new m pc,claims):=by kernel_rfl)
    (nd:(l.setIfInBounds i true).getD st false=true:=by kernel_rfl) (bp:Region.ready .any ops l=[i]:=by kernel_rfl):ar P ops cf st C (f+1) l a w:=
  ar.one bp (S.V_ a9 bW fun a1 w' cL dV mB=>ar.last nd (K a1 w' cL dV))
end
def oZ (i j k:Nat):Nat:=bif Nat.beq k i then j else bif Nat.beq k j then i else k
theorem NX (i j k:Nat):oZ i j k=if k=i then j else if k=j then i else k:=by
  unfold oZ
  by_cases h:k=i
  · subst h;simp
  · have h1:Nat.beq k i=false:=by cases hb:Nat.beq k i with|false=>rfl|true=>exact absurd (Nat.eq_of_beq_eq_true hb) h
    rw [h1,cond_false,if_neg h]
    by_cases an:k=j
    · subst an;simp
    · have aF:Nat.beq k j=false:=by cases hb:Nat.beq k j with|false=>rfl|true=>exact absurd (Nat.eq_of_beq_eq_true hb) an
      rw [aF,cond_false,if_neg an]
theorem NY (i j k:Nat):oZ i j (oZ i j k)=k:=by
  simp only [NX]
  repeat' split
  all_goals omega
theorem zn {i j k n:Nat} (hi:i<n) (bZ:j<n) (hk:k<n):oZ i j k<n:=by
  rw [NX];repeat' split
  all_goals omega
def eQ.Gt (i j:Nat):eQ->eQ
  | .v x=> .v x
  | .p k o=> .p (oZ i j k) o
def zm (i j:Nat):Env->Env
  |[]=>[]
  |(t,s)::r=>(t,s.Gt i j)::zm i j r
def b3.w2 (σ:b3) (i j:Nat):b3:=⟨zm i j σ.env,(List.range σ.aM.length).map fun k=>σ.aM.getD (oZ i j k) []⟩
theorem Lk {i j t:Nat}:∀e:Env,look (zm i j e) t=(look e t).map (eQ.Gt i j)
  |
    []=>rfl
  |(s,x)::r=>by
    simp only [zm,pE]
    split
    · rfl
    · exact Lk r
section
variable {P:Program} {n:Nat} {w0:World} {M:au} {u:World} {N:au} {β:Nat->Nat} {σ:b3} {a:Act} {w:World}
theorem aj.w2 (S:aj P n w0 M u N β σ a w) (i j:Nat) (hi:Nat.blt i σ.aM.length=true:=by kernel_rfl) (bZ:Nat.blt j σ.aM.length=true:=by kernel_rfl):aj P n w0 M u N (fun k=>β (oZ i j k)) (σ.w2 i j) a w:=by
  have hi:i<σ.aM.length:=by simpa [Nat.blt_eq] using hi
  have bZ:j<σ.aM.length:=by simpa [Nat.blt_eq] using bZ
  have hl:(σ.w2 i j).aM.length=σ.aM.length:=by simp [b3.w2]
  have b2:∀s:eQ,(s.Gt i j).val (fun k=>β (oZ i j k))=s.val β:=fun s=>by
    cases s with
    |v x=>rfl
    |p k o=>show bh (β (oZ i j (oZ i j k))) o=bh (β k) o;rw [NY]
  refine⟨S.ml,S.aW,fun t s bx=>?_,fun t k o bx=>?_,fun k cs hk=>?_,fun x y hx hy h=>?_,fun k hk=>?_,fun b hb=>?_,S.fu,S.k8⟩
  · rw [show(σ.w2 i j).env=zm i j σ.env from rfl,Lk] at bx
    cases hs:look σ.env t with
    |none=>rw [hs] at bx;cases bx
    |some gd=>
      rw [hs] at bx
      simp only [Option.map_some,Option.some.injEq] at bx
      subst bx
      rw [b2];exact S.env t gd hs
  · rw [show(σ.w2 i j).env=zm i j σ.env from rfl,Lk] at bx
    rw [hl]
    cases hs:look σ.env t with
    |none=>rw [hs] at bx;cases bx
    |some gd=>
      rw [hs] at bx
      simp only [Option.map_some,Option.some.injEq] at bx
      cases gd with
      |v x=>cases bx
      |p Ku cw=>
        cases bx
        exact zn hi bZ (S.ok t Ku o hs)
  · have SO:k<σ.aM.length:=by rw [←hl];exact(List.getElem?_eq_some_iff.1 hk).1
    have aF:=zn hi bZ SO
    simp only [b3.w2,List.getElem?_map,List.getElem?_range SO,Option.map_some,Option.some.injEq] at hk
    rw [List.getD_eq_getElem?_getD,List.getElem?_eq_getElem aF,Option.getD_some] at hk
    exact S.box _ cs (by rw [List.getElem?_eq_getElem aF,hk])
  · rw [hl] at hx hy
    have:=S.inj _ _ (zn hi bZ hx) (zn hi bZ hy) h
    rw [←NY i j x,this,NY]
  · rw [hl] at hk
    exact S.new _ (zn hi bZ hk)
  · obtain⟨h1,an,aF⟩:=S.sep b hb
    exact⟨h1,an,fun k hk=>aF _ (zn hi bZ (by rwa [hl] at hk))⟩
theorem cR.Gt {m:Nat} {bP:Nat->Nat} (h:cR m bP β) (i j:Nat) (hi:Nat.ble m i=true:=by kernel_rfl) (bZ:Nat.ble m j=true:=by kernel_rfl):cR m bP (fun k=>β (oZ i j k)):=fun k hk=>by
  have h1:=Nat.le_of_ble_eq_true hi
  have an:=Nat.le_of_ble_eq_true bZ
  show β (oZ i j k)=bP k
  rw [NX,if_neg (by omega),if_neg (by omega)]
  exact h k hk
end
end Go.Proofs.YtjlocpdfcanlhaaGreat
namespace Go.Proofs.YtjlocpdfcanlhaaGreat
open Go
set_option linter.unusedVariables false
set_option linter.unusedSimpArgs false
def anB (n a b:Int):Int:=if b<a\/n<a then a else if n>b then b else n
def gG (b:cP) (g:Int) (x:ax):cP:=if 0<=g/\g<b.U.length then⟨b.mem,b.U.set g.toNat x,b.outs,b.aC⟩ else b
def x0 (b:cP) (g:Int) (c:Bool) (F:ax->ax):cP×Bool:=
  if jC b=true/\(0<=g/\g<b.U.length)/\c=true then(⟨b.mem,b.U.set g.toNat (F (el b.U g.toNat)),b.outs,b.aC⟩,true) else(b,false)
def IJ (x:aO):cP:=⟨List.replicate 8 (List.replicate 4 0),x.U,x.outs,x.aC⟩
def abx (h:ah) (m:Int) (b:cP):ah:=⟨h.mem,h.I.set m.toNat {el h.I m.toNat with U:=b.U,aC:=b.aC},h.buf,h.ag⟩
def x3 (h:ah) (m:Int):Bool:=eJ h&&a3 m 0 ((h.I.length:Int)-1)
theorem Fe {h:ah} {m:Int} (e:x3 h m=true):eJ h=true/\0<=m/\m<h.I.length:=by
  simp only [x3,Bool.and_eq_true] at e
  have:=cV e.2
  exact⟨e.1,by omega,by omega⟩
theorem agk {h:ah} {m:Int} (e:eJ h=true/\0<=m/\m<h.I.length):x3 h m=true:=by
  simp only [x3,e.1,Bool.true_and,a3,Bool.and_eq_true,decide_eq_true_eq]
  omega
def qZ (h:ah) (m:Int) (r:cP×Bool):ah×Bool:=
  if(eJ h=true/\0<=m/\m<h.I.length)/\r.2=true then(abx h m r.1,true) else(h,false)
theorem Rs {α β:Type} [GT α] {f:Option β->α->Option β} (cY:∀x,f none x=none):∀(xs:List α) (z:Option β),(xs.foldl f z).isSome=true->∀k,k<xs.length->∃u,(f (some u) (el xs k)).isSome=true
  |
    [],_,_,k,hk=>by simp at hk
  |x::r,z,h,k,hk=>by
    have dead:∀bl:List α,bl.foldl f none=none:=fun bl=>by
      induction bl with
      |nil=>rfl
      |cons y r gj=>simp only [List.foldl_cons,cY,gj]
    rw [List.foldl_cons] at h
    cases k with
    |zero=>
      cases z with
      |none=>rw [cY,dead] at h;cases h
      |some u=>
        refine⟨u,?_⟩
        show(f (some u) x).isSome=true
        cases e:f (some u) x with
        |none=>rw [e,dead] at h;cases h
        |some _=>rfl
    |succ k=>
      obtain⟨u,hu⟩:=Rs cY r _ h k (by simpa using hk)
      exact⟨u,by rw [show el (x::r) (k+1)=el r k by simp [el]];exact hu⟩
theorem wb {h:ah} (e:eJ h=true) {k:Nat} (hk:k<h.I.length):hS (el h.I k)=true:=by
  simp only [eJ,Bool.and_eq_true] at e
  obtain⟨u,hu⟩:=Rs CO h.I _ e.2 k hk
  unfold pQ at hu
  simp only [Option.bind_some] at hu
  split at hu
  · assumption
  · cases hu
theorem ai5 {m:List (List Int)} {n p:Int} (h:ib m n=true):ho (hn m p)=true:=by
  unfold hn
  split
  · simp only [ib,Bool.and_eq_true] at h
    exact s9 h.1 (by omega)
  · decide
theorem ai6 {h:ah} (e:eJ h=true) {m:Int} (hm:0<=m/\m<h.I.length) (p:Int):ho (ox h m p)=true:=by
  have EE:=wb e (k:=m.toNat) (by omega)
  have afa:ib h.mem 12=true:=by
    simp only [eJ,qb,Bool.and_eq_true] at e
    exact e.1.1.1.1
  unfold ox
  split
  · rename_i bC
    split
    · exact ai5 afa
    · rename_i hs
      have bN:=(re EE).1
      have hpl:0<=p/\p<((el h.I m.toNat).outer.length:Int):=by omega
      have q7:=CU (re EE).2 (k:=p.toNat) (by omega)
      have tG:nS (el h.I m.toNat) p.toNat=true:=by
        simp only [hS,Bool.and_eq_true] at EE
        exact Gd EE.2 (by omega)
      have cu:eV (el h.I m.toNat).outer p=el (el h.I m.toNat).outer p.toNat:=by
        unfold eV;rw [if_pos hpl]
      rw [cu] at hs
      have afs:el (el h.I m.toNat).outer p.toNat=⟨-1,0⟩:=by
        simp only [g8,Bool.or_eq_true,Bool.and_eq_true,decide_eq_true_eq] at q7
        rcases q7 with q7|q7
        · exact q7
        · have:=cV q7.1.2
          exact absurd (by omega:(el (el h.I m.toNat).outer p.toNat).page≠ -1) hs
      unfold nS at tG
      rw [if_pos afs] at tG
      unfold hn
      split
      · exact tG
      · decide
  · decide
theorem akW {x:aO} (h:hS x=true):jC (IJ x)=true:=by
  simp only [hS,ow,qY,Bool.and_eq_true] at h
  simp only [jC,IJ,Bool.and_eq_true]
  exact⟨⟨⟨⟨h.1.2,by decide⟩,h.1.1.1.1.1.1.1⟩,h.1.1.2.1.1.1⟩,h.1.1.2.1.1.2⟩
theorem ako {h:ah} (e:eJ h=true) {m:Int} (hm:0<=m/\m<h.I.length):jC (fk h m)=true:=by
  have b2:=akW (wb e (k:=m.toNat) (by omega))
  simp only [jC,IJ,Bool.and_eq_true] at b2
  unfold fk
  rw [if_pos hm]
  simp only [jC,Bool.and_eq_true]
  refine⟨⟨⟨⟨b2.1.1.1.1,?_⟩,b2.1.1.2⟩,b2.1.2⟩,b2.2⟩
  simp only [ib,Bool.and_eq_true,beq_iff_eq]
  refine⟨?_,by simp⟩
  rw [List.all_eq_true]
  intro x hx
  obtain⟨i,_,rfl⟩:=List.mem_map.1 hx
  exact ai6 e hm _
structure Loc (r:cP->cP×Bool):Prop where
  eq:∀b lL,jC b=jC lL->b.U=lL.U->b.outs=lL.outs->b.aC=lL.aC->(r b).2=(r lL).2/\(r b).1.U=(r lL).1.U/\(r b).1.aC=(r lL).1.aC
  no:∀b,(r b).2=false->(r b).1.U=b.U/\(r b).1.aC=b.aC
def abz (b:cP) (g:Int) (c:fy):cP×Bool:=x0 b g (m5 c) (fun x=>{x with aN:=c})
def anH (h:ah) (m g:Int) (c:fy):ah×Bool:=qZ h m (abz (fk h m) g c)
def anM (h:ah) (m n:Int):ah×Bool:=qZ h m (abB (fk h m) n)
def abA (b:cP) (g n:Int):cP×Bool:=x0 b g (D7 (a2 b g).1.aC n).2 (fun x=>{x with aC:=(D7 (a2 b g).1.aC n).1})
def anK (h:ah) (m g n:Int):ah×Bool:=qZ h m (abA (fk h m) g n)
def a5 (g:ax):ax:={g with aw:=if g.aw>=12 then 12 else g.aw+1}
def jD (g:ax):ax:=a5 {g with halted:=true}
def x1 (b:cP) (g:Int):dg:=(a2 b g).1.exit
def abU (kind:Int) (x:ax):ax:=if kind=4 then jD {x with exit:=⟨0,0,false,0⟩} else {x with exit:=⟨0,0,false,0⟩}
def abC (b:cP) (g:Int):cP×Bool:=x0 b g ((x1 b g).kind==1||(x1 b g).kind==4) (fun x=>abU (x1 b g).kind x)
def anO (h:ah) (m g:Int):ah×Bool:=qZ h m (abC (fk h m) g)
def abw (kind v:Int) (x:ax):ax:=a5 {(if kind=2 then {x with acc:=v} else x) with exit:=⟨0,0,false,0⟩}
def aby (b:cP) (g v:Int):cP×Bool:=x0 b g (((x1 b g).kind==2||(x1 b g).kind==3)&&a3 v 0 99) (fun x=>abw (x1 b g).kind v x)
def anG (h:ah) (m g v:Int):ah×Bool:=qZ h m (aby (fk h m) g v)
def Rc (t:List aR) (p:Int) (s:aR):List aR:=if 0<=p/\p<t.length then t.set p.toNat s else t
def abD (b:cP) (g page:Int) (s:aR):cP×Bool:=x0 b g (a3 page 0 3&&g8 s 8) (fun x=>{x with written:=Rc x.written page s})
def anP (h:ah) (m g page:Int) (s:aR):ah×Bool:=qZ h m (abD (fk h m) g page s)
end Go.Proofs.YtjlocpdfcanlhaaGreat
namespace Go.Proofs.YtjlocpdfcanlhaaGreat
open Go
set_option linter.unusedVariables false
set_option linter.unusedSimpArgs false
def ic (e:aH) (tag page:Int):Bool:=(e.tag==tag)&&(e.page==page)
def jE (b:List aH) (p:aH->Bool):List aH:=b.filter fun e=>!p e
def cM (b:List aH) (tag page:Int):List aH:=jE b fun e=>ic e tag page
theorem s0 {b:List aH} {p:aH->Bool} {k:Nat} (hk:k<b.length) (h:p (el b k)=true):jE (b.take (k+1)) p=jE (b.take k) p:=by
  unfold jE
  rw [jb hk,List.filter_append]
  simp [h]
theorem pS {b:List aH} {p:aH->Bool} {k:Nat} (hk:k<b.length) (h:p (el b k)=false):jE (b.take (k+1)) p=jE (b.take k) p++[el b k]:=by
  unfold jE
  rw [jb hk,List.filter_append]
  simp [h]
theorem w5 (b:List aH) (p:aH->Bool):(jE b p).length<=b.length:=List.length_filter_le _ _
theorem sT {e:aH} {tag page:Int} (h:¬e.tag=tag):ic e tag page=false:=by simp [ic,h]
theorem wY {e:aH} {tag page:Int} (h:¬e.page=page):ic e tag page=false:=by simp [ic,h]
theorem CK {e:aH} {tag page:Int} (h:e.tag=tag) (an:e.page=page):ic e tag page=true:=by simp [ic,h,an]
def bR (m g:Int):Int:=if(0<=m/\m<=2)/\0<=g/\g<=1 then 1+g+m*2 else 0
theorem Gx (m g:Int):a_ (bR m g):=by
  unfold bR
  split
  · exact⟨by omega,by omega⟩
  · exact⟨by decide,by decide⟩
def Q8 (b:cP) (g page:Int):cP×Bool:=x0 b g (a3 page 0 3) (fun x=>{x with live:=Rc x.live page (eV x.written page)})
def abH (h:ah) (m g page:Int):ah:=
  ⟨h.mem,h.I.set m.toNat {el h.I m.toNat with tables:=(el h.I m.toNat).tables.set g.toNat (ke (el (el h.I m.toNat).tables g.toNat) page)},cM h.buf (bR m g) page,cM h.ag (bR m g) page⟩
def anJ (h:ah) (m g page:Int):ah×Bool:=
  if(qZ h m (Q8 (fk h m) g page)).2=true then(abH (qZ h m (Q8 (fk h m) g page)).1 m g page,true) else(h,false)
end Go.Proofs.YtjlocpdfcanlhaaGreat
namespace Go.Proofs.YtjlocpdfcanlhaaGreat
open Go
set_option linter.unusedVariables false
section
variable {w0:World} {M:au} {u:World} {N:au}
theorem J.sub {A B C:au} (d:J A B) (h:∀b,C b->B b):J A C:=fun b x y=>d b x (h b y)
def oE (p p':b_):Prop:=p'.I.1=p.I.1
theorem hv {α:Type} [GT α] {K:Nat} {xs:List α} {p:aD α} {H:mh} (h:p.1=H) (f:GT.rd K N u xs p):GT.rd K N u xs ((H,p.2):aD α):=h▸f
theorem acb {h:ah} {q:aD ah} {F:au} (o:ad w0 M u N F [h] q):
    ∃
      H:au,ad w0 M u N H h.I (q.2 0).I/\(∀b,H b->F b)/\∀(bI:World) (aB:au) (y:List aO) (cx:Nat->ft) (cI Fy:au),(∀b,N b->¬H b->aB b/\bI.heap[b]? =u.heap[b]?)->ad w0 M bI aB cI y (((q.2 0).I.1,cx):aD aO)->(∀b,cI b->H b\/Fy b)->J F Fy->y.length=h.I.length->(∀b,H b->aB b)->
      ∃nt:Nat->b_,ad w0 M bI aB (Or F cI) [{h with I:=y}] ((q.1,nt):aD ah)/\(nt 0).I.1=(q.2 0).I.1:=by
  obtain⟨H,h1,an,aF⟩:=abZ o (k:=0) (Nat.succ_pos 0)
  exact⟨H,h1,an,fun bI aB y cx cI Fy a b c d e f=>⟨_,aF bI aB y ((q.2 0).I.1,cx) cI Fy a b c d (by show [R _ _]=[R _ _];rw [e];rfl) f,rfl⟩⟩
theorem Qo {K:Nat} {h:ah} {q:aD ah} (o:GT.rd K N u [h] q):GT.rd K N u h.mem (q.2 0).mem:=bu.mem (d:=h) (ae.el o 0 (Nat.succ_pos 0))
theorem fB {K:Nat} {h:ah} {q:aD ah} (o:GT.rd K N u [h] q):GT.rd K N u h.I (q.2 0).I:=bu.I (d:=h) (ae.el o 0 (Nat.succ_pos 0))
theorem hj {K:Nat} {a:List (List Int)} {b:List aO} {c d:List aH} {q:aD ah} (o:GT.rd K N u [(⟨a,b,c,d⟩:ah)] q):GT.rd K N u b (q.2 0).I:=fB o
theorem DP {K:Nat} {h:ah} {q:aD ah} (o:GT.rd K N u [h] q):GT.rd K N u h.buf (q.2 0).buf:=bu.buf (d:=h) (ae.el o 0 (Nat.succ_pos 0))
theorem Qn {K:Nat} {a:List (List Int)} {b:List aO} {c d:List aH} {q:aD ah} (o:GT.rd K N u [(⟨a,b,c,d⟩:ah)] q):GT.rd K N u c (q.2 0).buf:=DP o
theorem aaB {K:Nat} {h:ah} {q:aD ah} (o:GT.rd K N u [h] q):GT.rd K N u h.ag (q.2 0).ag:=bu.ag (d:=h) (ae.el o 0 (Nat.succ_pos 0))
theorem aaA {K:Nat} {a:List (List Int)} {b:List aO} {c d:List aH} {q:aD ah} (o:GT.rd K N u [(⟨a,b,c,d⟩:ah)] q):GT.rd K N u d (q.2 0).ag:=aaB o
theorem r7 {β:Type} [GT β] {h:ah} {q:aD ah} {F:au} {m:Nat} {L:List β} {pl:aD β} {N2:List β->aO} (o:ad w0 M u N F [h] q)
    (bc:∀F:au,ad w0 M u N F h.I (q.2 0).I->∃H:au,ad w0 M u N H L pl/\(∀b,H b->F b)/\∀(bI:World) (aB:au) (y:List β) (ji:aD β) (cI Fy:au),(∀b,N b->¬H b->aB b/\bI.heap[b]? =u.heap[b]?)->ad w0 M bI aB cI y ji->(∀b,cI b->H b\/Fy b)->J F Fy->GT.cells y ji=GT.cells L pl->(∀b,H b->aB b)->
      ∃cx,ad w0 M bI aB (Or F cI) (h.I.set m (N2 y)) (((q.2 0).I.1,cx):aD aO)/\∀j,GT.cells (el (h.I.set m (N2 y)) j) (cx j)=GT.cells (el h.I j) ((q.2 0).I.2 j)):
    ∃H:au,ad w0 M u N H L pl/\(∀b,H b->F b)/\∀(bI:World) (aB:au) (y:List β) (cx:Nat->GT.Ptr β) (cI Fy:au),(∀b,N b->¬H b->aB b/\bI.heap[b]? =u.heap[b]?)->ad w0 M bI aB cI y ((pl.1,cx):aD β)->(∀b,cI b->H b\/Fy b)->J F Fy->y.length=L.length->(∀b,N b->aB b)->
      ∃nt:Nat->b_,ad w0 M bI aB (Or F cI) [{h with I:=h.I.set m (N2 y)}] ((q.1,nt):aD ah)/\(nt 0).I.1=(q.2 0).I.1:=by
  obtain⟨W9,cn,a8,b7⟩:=acb o
  obtain⟨H,h1,an,aF⟩:=bc W9 cn
  refine⟨H,h1,fun b hb=>a8 b (an b hb),fun bI aB y cx cI Fy up ua hs hd hl hN=>?_⟩
  obtain⟨Ca,f_,_⟩:=aF bI aB y (pl.1,cx) cI Fy up ua hs (fun b x z=>hd b (a8 b x) z) (by show [R _ _]=[R _ _];rw [hl]) (fun b hb=>hN b (cn.sub b (an b hb)))
  obtain⟨nt,aA,fo⟩:=b7 bI aB _ Ca _ Fy (fun b hb cY=>up b hb fun bE=>cY (an b bE)) f_ (fun b hb=>hb.elim .inl fun hb=>(hs b hb).imp (an b) id) hd (List.length_set) (fun b hb=>hN b (cn.sub b hb))
  exact⟨nt,⟨GT.fO aA.own (Nat.le_refl _) (fun b hb=>hb.elim .inl fun hb=>hb.imp (a8 b) id),fun b hb=>hb.elim (fun hb=>aA.sub b (.inl hb)) (fun hb=>aA.sub b (.inr (.inr hb))),fun b hb=>hb.elim (fun hb=>aA.dM b (.inl hb)) (fun hb=>aA.dM b (.inr (.inr hb)))⟩,fo⟩
def Xo {α:Type} [GT α] (kv F:au) (w:World) (r:α) (k:Int) (c:Bool) (e:Ending) (w':World):Prop:=
  ∃q bU,e= .returned (.tuple #[GT.val r q,aa k,B c])/\bB kv w w'/\GT.own b6 bU w' r q/\a_ k/\∀b,bU b->F b\/(w.heap.size<=b/\b<w'.heap.size)
section
variable {P:Program} {n:Nat} {β:Nat->Nat} {σ:b3} {a:Act} {w:World} {ops:Array Oper} {Q:Exit->Act->World->Prop} {dh:Act->World->Prop}
end
theorem ad.c_ {α:Type} [GT α] {xs:List α} {p:aD α} {F:au} (o:ad w0 M u N F xs p) {a b:Nat} (ki:a<=b) (hb:b<=xs.length):ad w0 M u N F ((xs.drop a).take (b-a)) ((p.1.c_ a (GT.width α),fun i=>p.2 (a+i)):aD α):=by
  refine⟨?_,o.sub,o.dM⟩
  have h:g4 b6 F u xs p:=o.own
  have hlen:((xs.drop a).take (b-a)).length=b-a:=by simp;omega
  have ih:∀i,i<b-a->el ((xs.drop a).take (b-a)) i=el xs (a+i):=fun i hi=>by
    unfold el
    rw [List.getD_eq_getElem?_getD,List.getD_eq_getElem?_getD,List.getElem?_take_of_lt hi,List.getElem?_drop]
  have vZ:=h.cap
  obtain⟨G,cn,a8,b7⟩:=h.el
  show g4 b6 F u _ _
  refine⟨by have:=h.le;omega,by show _<=p.1.cap-a;omega,by show p.1.cap-a<=_;have:=h.pe;omega,fun z=>by show p.1.cap-a=0;have:=h.null z;omega,fun z=>?_,fun i hi=>?_,fun i=>G (a+i),fun i hi=>?_,fun i hi c hc=>?_,fun i j hi bZ sl=>?_⟩
  · obtain⟨km,cs,T,oW,rH⟩:=h.row z
    refine⟨km,cs,T,oW,?_⟩
    show(bif p.1.cap==a then p.1.off else p.1.off+a*GT.width α)+(p.1.cap-a)*GT.width α<=cs.size
    have cB:p.1.cap*GT.width α=a*GT.width α+(p.1.cap-a)*GT.width α:=by rw [←Nat.add_mul];congr 1;omega
    cases p.1.cap==a
    · simp only [cond_false];omega
    · simp only [cond_true];omega
  · rw [hlen] at hi
    rw [ih i hi]
    have cu:(p.1.cap==a)=false:=by simp;omega
    have:=h.cell (a+i) (by omega)
    show kW u p.1.b ((bif p.1.cap==a then p.1.off else p.1.off+a*GT.width α)+i*GT.width α) _
    rw [cu]
    simp only [cond_false]
    rw [Nat.add_assoc,←Nat.add_mul]
    exact this
  · rw [hlen] at hi
    rw [ih i hi]
    exact cn (a+i) (by omega)
  · rw [hlen] at hi
    exact a8 (a+i) (by omega) c hc
  · rw [hlen] at hi bZ
    exact b7 (a+i) (a+j) (by omega) (by omega) (by omega)
end
theorem CM {X xs:List aO} {k:Nat} {y:List aR} (h:X=xs.set k {el xs k with outer:=y}) (hk:k<xs.length) (hy:y.length=(el xs k).outer.length):(X.length=xs.length/\(el X k).outer.length=(el xs k).outer.length/\(el X k).out.length=(el xs k).out.length/\(el X k).aT.length=(el xs k).aT.length/\(el X k).U.length=(el xs k).U.length/\(el X k).outs.length=(el xs k).outs.length/\(el X k).tables.length=(el xs k).tables.length)/\el X k={el xs k with outer:=y}:=by
  subst h;rw [dW hk];exact⟨⟨List.length_set,hy,rfl,rfl,rfl,rfl,rfl⟩,rfl⟩
theorem Gp {X xs:List aO} {k:Nat} {y:List (List Int)} (h:X=xs.set k {el xs k with out:=y}) (hk:k<xs.length) (hy:y.length=(el xs k).out.length):(X.length=xs.length/\(el X k).outer.length=(el xs k).outer.length/\(el X k).out.length=(el xs k).out.length/\(el X k).aT.length=(el xs k).aT.length/\(el X k).U.length=(el xs k).U.length/\(el X k).outs.length=(el xs k).outs.length/\(el X k).tables.length=(el xs k).tables.length)/\el X k={el xs k with out:=y}:=by
  subst h;rw [dW hk];exact⟨⟨List.length_set,rfl,hy,rfl,rfl,rfl,rfl⟩,rfl⟩
theorem Gm {X xs:List aO} {k:Nat} {y:List Bool} (h:X=xs.set k {el xs k with aT:=y}) (hk:k<xs.length) (hy:y.length=(el xs k).aT.length):(X.length=xs.length/\(el X k).outer.length=(el xs k).outer.length/\(el X k).out.length=(el xs k).out.length/\(el X k).aT.length=(el xs k).aT.length/\(el X k).U.length=(el xs k).U.length/\(el X k).outs.length=(el xs k).outs.length/\(el X k).tables.length=(el xs k).tables.length)/\el X k={el xs k with aT:=y}:=by
  subst h;rw [dW hk];exact⟨⟨List.length_set,rfl,rfl,hy,rfl,rfl,rfl⟩,rfl⟩
theorem zl {X xs:List aO} {k:Nat} {y:List bS} (h:X=xs.set k {el xs k with tables:=y}) (hk:k<xs.length) (hy:y.length=(el xs k).tables.length):(X.length=xs.length/\(el X k).outer.length=(el xs k).outer.length/\(el X k).out.length=(el xs k).out.length/\(el X k).aT.length=(el xs k).aT.length/\(el X k).U.length=(el xs k).U.length/\(el X k).outs.length=(el xs k).outs.length/\(el X k).tables.length=(el xs k).tables.length)/\el X k={el xs k with tables:=y}:=by
  subst h;rw [dW hk];exact⟨⟨List.length_set,rfl,rfl,rfl,rfl,rfl,hy⟩,rfl⟩
theorem zk {α:Type} [GT α] {xs:List α} {k:Nat}:xs.set k (el xs k)=xs:=by
  by_cases h:k<xs.length
  · rw [p_ h];exact List.set_getElem_self h
  · exact List.set_eq_of_length_le (by omega)
end Go.Proofs.YtjlocpdfcanlhaaGreat
namespace Go.Proofs.YtjlocpdfcanlhaaGreat
open Go
set_option linter.unusedVariables false
set_option linter.unusedSimpArgs false
inductive Fr where
  |seq (y:Code)
  |ta (id:Nat)
  |ja (f:Act->World->Prop)
def lE (P:Program) (Q:Exit->Act->World->Prop):List Fr->Exit->Act->World->Prop
  |[]=>Q
  | .seq y::r=>Exit.then (y.wp P (lE P Q r)) (lE P Q r)
  | .ta id::r=>Exit.inBlock id (lE P Q r)
  | .ja f::r=>Exit.then f (lE P Q r)
inductive eO where
  |code (c:Code) (dj:List Fr)
  |ops (ops:Array Oper) (i:Nat) (dj:List Fr)
  |ex (e:Exit) (dj:List Fr)
def eO.wp (P:Program) (Q:Exit->Act->World->Prop):eO->Act->World->Prop
  | .code c dj=>c.wp P (lE P Q dj)
  | .ops o i dj=>jX P o (lE P Q dj) i
  | .ex e dj=>lE P Q dj e
structure dq where
  cG:eO
  σ:b3
  asks:List Ask
def h8 (P:Program) (n:Nat):Nat->eO->b3->List Value->dq
  |
    0,cG,σ,_=>⟨cG,σ,[]⟩
  |k+1,.code c dj,σ,c7=>
    match c with
    | .skip=>h8 P n k (.ex .normal dj) σ c7
    | .seq x y=>h8 P n k (.code x (.seq y::dj)) σ c7
    | .block id x=>h8 P n k (.code x (.ta id::dj)) σ c7
    | .exit id=>h8 P n k (.ex (.exit id) dj) σ c7
    | .ret=>⟨.ex .ret [],σ,[]⟩
    | .cond c x y=>
      match σ.get c with
      |some (.v (.bool b))=>h8 P n k (.code (bif b then x else y) dj) σ c7
      |_=>⟨.code (.cond c x y) dj,σ,[]⟩
    | .region _ ops false=>h8 P n k (.ops ops 0 dj) σ c7
    | .region id ops true=>
      bif P.follows .mixedOrders&&Region.lexB .any ops then
        match k3 P n ops ops.toList σ c7 with
        |some (σ',l)=>
          let r:=h8 P n k (.ex .normal dj) σ' (c7.drop l.length)
          ⟨r.cG,r.σ,l.map (·.1)++r.asks⟩
        |none=>⟨.code (.region id ops true) dj,σ,[]⟩
      else⟨.code (.region id ops true) dj,σ,[]⟩
    |c=>⟨.code c dj,σ,[]⟩
  |k+1,.ops ops i dj,σ,c7=>
    match ops.toList[i]? with
    |none=>h8 P n k (.ex .normal dj) σ c7
    |some o=>
      match gF P n ops [o] σ (c7.take 1) with
      |none=>⟨.ops ops i dj,σ,[]⟩
      |some (σ',[])=>h8 P n k (.ops ops (i+1) dj) σ' c7
      |some (σ',(q,_)::_)=>
        let r:=h8 P n k (.ops ops (i+1) dj) σ' (c7.drop 1)
        ⟨r.cG,r.σ,q::r.asks⟩
  |k+1,.ex .normal dj,σ,c7=>
    match dj with
    | .seq y::r=>h8 P n k (.code y r) σ c7
    | .ta _::r=>h8 P n k (.ex .normal r) σ c7
    |dj=>⟨.ex .normal dj,σ,[]⟩
  |k+1,.ex (.exit id) dj,σ,c7=>
    match dj with
    | .seq _::r=>h8 P n k (.ex (.exit id) r) σ c7
    | .ja _::r=>h8 P n k (.ex (.exit id) r) σ c7
    | .ta ET::r=>bif Nat.beq id ET then h8 P n k (.ex .normal r) σ c7 else h8 P n k (.ex (.exit id) r) σ c7
    |[]=>⟨.ex (.exit id) [],σ,[]⟩
  |_+1,.ex .ret _,σ,_=>⟨.ex .ret [],σ,[]⟩
  |_+1,.ex e dj,σ,_=>⟨.ex e dj,σ,[]⟩
section
variable {P:Program} {n:Nat} {w0:World} {M:au} {u:World} {N:au} {β:Nat->Nat} {σ:b3} {a:Act} {w:World} {Q:Exit->Act->World->Prop} {cG:eO}
theorem Q5 {ops:Array Oper} {i:Nat} {o:Oper} {σ':b3} {claims:List (Ask×Value)} {dj:List Fr} (bN:ops.toList[i]? =some o) (bW:gF P n ops [o] σ (claims.map (·.2))=some (σ',claims)) (a9:fA P u N claims) (S:aj P n w0 M u N β σ a w)
    (K:∀a1 w' cL,aj P n w0 M u N cL σ' a1 w'->eO.wp P Q (.ops ops (i+1) dj) a1 w'):eO.wp P Q (.ops ops i dj) a w:=by
  have kI:ops[i]? =some o:=by simpa using bN
  have eW:i<ops.size:=(Array.getElem?_eq_some_iff.1 kI).1
  have key:=IF (P:=P) (n:=n) (w0:=w0) (M:=M) (u:=u) (N:=N) (ops:=ops) (Q:=lE P Q dj) σ' (List.range' (i+1) (ops.size-(i+1))) [o] i σ a w β claims
    (fun t gu bx=>by
      cases t with
      |zero=>simp at bx;subst bx;simpa using kI
      |succ t=>simp at bx) bW a9 S (fun a1 w' cL dV=>K a1 w' cL dV)
  show jX P ops (lE P Q dj) i a w
  unfold jX
  rw [show ops.size-i=1+(ops.size-(i+1)) by omega,←List.range'_append_1]
  exact key
theorem abq {ops:Array Oper} {o:Oper} {σ':b3} {l:List (Ask×Value)} {claims:List (Ask×Value)} {q:Ask} {v:Value} (h:gF P n ops [o] σ (((q,v)::claims).map (·.2) |>.take 1)=some (σ',l)) {ji:Ask} {x:Value} {r:List (Ask×Value)} (e:l=(ji,x)::r):l=[(ji,v)]:=by
  subst e
  simp only [List.map_cons,List.take_succ_cons,List.take_zero,gF] at h
  split at h
  · cases h
  · cases bC:σ.put n o.dst (.v undef) with
    |none=>rw [bC] at h;cases h
    |some bH=>rw [bC] at h;simp at h
  · split at h
    · cases h
    · rename_i h2 hx
      cases bC:σ.put n o.dst h2 with
      |none=>rw [bC] at h;cases h
      |some bH=>rw [bC] at h;simp at h
    · rename_i af hx
      cases bC:σ.put n o.dst (.v v) with
      |none=>rw [bC] at h;cases h
      |some bH=>
        rw [bC] at h
        simp only [Option.bind_some,Option.map_some,Option.some.injEq,Prod.mk.injEq,List.cons.injEq] at h
        obtain⟨_,⟨h1,an⟩,aF⟩:=h
        rw [←an,←aF]
    · rename_i T cs hx
      cases bC:b3.put n ⟨σ.env,σ.aM++[cs]⟩ o.dst (.p σ.aM.length 0) with
      |none=>rw [bC] at h;cases h
      |some bH=>rw [bC] at h;simp at h
    · split at h
      · simp at h
      · cases h
theorem abt {ops:Array Oper} {o:Oper} {σ':b3} {c7:List Value} (h:gF P n ops [o] σ c7=some (σ',[])):gF P n ops [o] σ []=some (σ',[]):=by
  simp only [gF] at h ⊢
  split at h
  · cases h
  · assumption
  · split at h
    · cases h
    · exact h
    · cases c7 with
      |
        nil=>cases h
      |cons v r=>
        simp only at h
        cases bC:σ.put n o.dst (.v v) with
        |none=>rw [bC] at h;cases h
        |some bH=>rw [bC] at h;simp at h
    · assumption
    · split at h
      · assumption
      · cases h
theorem abr {ops:Array Oper} {o:Oper} {σ':b3} {l:List (Ask×Value)} (h:gF P n ops [o] σ []=some (σ',l)):l=[]:=by
  simp only [gF] at h
  split at h
  · cases h
  · cases bC:σ.put n o.dst (.v undef) with
    |none=>rw [bC] at h;cases h
    |some bH=>rw [bC] at h;simp at h;exact h.2
  · split at h
    · cases h
    · rename_i h2 hx
      cases bC:σ.put n o.dst h2 with
      |none=>rw [bC] at h;cases h
      |some bH=>rw [bC] at h;simp at h;exact h.2
    · cases h
    · rename_i T cs hx
      cases bC:b3.put n ⟨σ.env,σ.aM++[cs]⟩ o.dst (.p σ.aM.length 0) with
      |none=>rw [bC] at h;cases h
      |some bH=>rw [bC] at h;simp at h;exact h.2
    · split at h
      · simp at h;exact h.2
      · cases h
theorem CY:∀dj:List Fr,lE P Q dj .ret a w=Q .ret a w
  |[]=>rfl
  | .seq _::r=>CY r
  | .ta _::r=>CY r
  | .ja _::r=>CY r
theorem Q3 {ops:Array Oper} {σ':b3}:∀(l:List Oper) (σ:b3) (c7:List Value) (r:List (Ask×Value)),k3 P n ops l σ c7=some (σ',r)->r.map (·.2)=c7.take r.length/\k3 P n ops l σ (r.map (·.2))=some (σ',r)
  |
    [],σ,c7,r,h=>by
    simp only [k3,Option.some.injEq,Prod.mk.injEq] at h
    obtain⟨rfl,rfl⟩:=h
    exact⟨rfl,rfl⟩
  |o::l,σ,c7,r,h=>by
    have oe:=Q3 (ops:=ops) (σ':=σ') l
    simp only [k3] at h ⊢
    split at h
    · cases h
    · cases bC:σ.put n o.dst (.v undef) with
      |none=>rw [bC] at h;cases h
      |some bH=>rw [bC] at h;simp only [Option.bind_some] at h ⊢;exact oe bH c7 r h
    · split at h
      · rename_i aJ x hx
        cases bC:σ.put n o.dst x with
        |none=>rw [bC] at h;cases h
        |some bH=>rw [bC] at h;simp only [Option.bind_some,hx,bC] at h ⊢;exact oe bH c7 r h
      · rename_i aJ q hx
        cases c7 with
        |nil=>cases h
        |cons v c7=>
          simp only at h
          cases bC:σ.put n o.dst (.v v) with
          |none=>rw [bC] at h;cases h
          |some bH=>
            rw [bC] at h
            simp only [Option.bind_some] at h
            cases bp:k3 P n ops l bH c7 with
            |none=>rw [bp] at h;cases h
            |some r'=>
              rw [bp] at h
              simp only [Option.map_some,Option.some.injEq,Prod.mk.injEq] at h
              obtain⟨h1,an⟩:=h
              subst an
              have:=oe bH c7 r'.2 (by rw [bp,←h1])
              refine⟨by simp [this.1],?_⟩
              simp only [List.map_cons,hx,bC,Option.bind_some,this.2,Option.map_some]
      · cases h
theorem Vt {α β:Type}:∀{l m:List (α×β)},l.map (·.1)=m.map (·.1)->l.map (·.2)=m.map (·.2)->l=m
  |
    [],[],_,_=>rfl
  |[],_::_,h,_=>by simp at h
  |_::_,[],h,_=>by simp at h
  |(a,b)::l,(c,d)::m,h,cl=>by
    simp only [List.map_cons,List.cons.injEq] at h cl
    rw [h.1,cl.1,Vt h.2 cl.2]
theorem fA.parts {l m:List (Ask×Value)} (h:fA P u N (l++m)):fA P u N l/\fA P u N m:=by
  induction l with
  |nil=>exact⟨trivial,h⟩
  |cons c l gj=>exact⟨⟨h.1,(gj h.2).1⟩,(gj h.2).2⟩
theorem aj.xC (S:aj P n w0 M u N β σ a w) {id:Nat} {ops:Array Oper} {σ':b3} {claims:List (Ask×Value)} (a9:fA P u N claims)
    (hm:P.follows .mixedOrders=true) (cb:Region.lexB .any ops=true)
    (bW:k3 P n ops ops.toList σ (claims.map (·.2))=some (σ',claims)) (K:∀a1 w',aj P n w0 M u N β σ' a1 w'->Q .normal a1 w'):(Code.region id ops true).wp P Q a w:=by
  have iv:aj P n w0 M u N β σ a {w with drawn:=w.drawn+1}:=S.ext (bB.draw ab w _)
  refine wp_region_quiet (C:=fun w'=>bB ab {w with drawn:=w.drawn+1} w') hm cb (bB.refl _ _) ?_
  exact ID _ σ' _ ops.toList σ a claims bW a9 iv fun a1 dV w' qn=>K a1 w' (dV.ext qn)
theorem lg:∀(k:Nat) (cG:eO) (σ:b3) (claims:List (Ask×Value)) (a:Act) (w:World) (β:Nat->Nat),
    (h8 P n k cG σ (claims.map (·.2))).asks=claims.map (·.1)->fA P u N claims->aj P n w0 M u N β σ a w->
    (∀a1 w' cL,aj P n w0 M u N cL (h8 P n k cG σ (claims.map (·.2))).σ a1 w'->eO.wp P Q (h8 P n k cG σ (claims.map (·.2))).cG a1 w')->eO.wp P Q cG a w
  |
    0,cG,σ,claims,a,w,β,_,_,S,K=>K a w β S
  |k+1,.code c dj,σ,claims,a,w,β,h,a9,S,K=>by
    cases c with
    |skip=>exact wp_skip (lg k (.ex .normal dj) σ claims a w β h a9 S K)
    |seq x y=>exact wp_seq (lg k (.code x (.seq y::dj)) σ claims a w β h a9 S K)
    |block id x=>exact wp_block (lg k (.code x (.ta id::dj)) σ claims a w β h a9 S K)
    |exit id=>exact wp_exit (lg k (.ex (.exit id) dj) σ claims a w β h a9 S K)
    |ret=>exact wp_ret (show lE P Q dj .ret a w by rw [CY];exact K a w β S)
    |cond c x y=>
      cases hc:σ.get c with
      |none=>simp only [h8,hc] at K;exact K a w β S
      |some s=>
        cases s with
        |p k o=>simp only [h8,hc] at K;exact K a w β S
        |v z=>
          cases z with
          |bool b=>
            simp only [h8,hc] at h K
            refine S.cond hc (fun e=>?_) (fun e=>?_)<;>subst e
            · exact lg k (.code x dj) σ claims a w β h a9 S K
            · exact lg k (.code y dj) σ claims a w β h a9 S K
          |_=>simp only [h8,hc] at K;exact K a w β S
    |region id ops d=>
      cases d with
      |false=>exact jX.start (lg k (.ops ops 0 dj) σ claims a w β h a9 S K)
      |true=>
        simp only [h8] at h K
        cases hb:(P.follows .mixedOrders&&Region.lexB .any ops) with
        |false=>simp only [hb,cond_false] at K;exact K a w β S
        |true=>
          simp only [hb,cond_true] at h K
          simp only [Bool.and_eq_true] at hb
          cases he:k3 P n ops ops.toList σ (claims.map (·.2)) with
          |none=>simp only [he] at K;exact K a w β S
          |some r=>
            obtain⟨σ',l⟩:=r
            simp only [he] at h K
            obtain⟨h1,an⟩:=Q3 _ _ _ _ he
            have hl:l=claims.take l.length:=by
              refine Vt ?_ ?_
              · have:=congrArg (List.take l.length) h
                rw [List.take_left' (by simp)] at this
                rw [this,List.map_take]
              · rw [h1,List.map_take]
            have hc:claims=l++claims.drop l.length:=by
              conv=>lhs;rw [←List.take_append_drop l.length claims]
              rw [←hl]
            generalize claims.drop l.length=z4 at hc
            subst hc
            have hd:(List.map (fun x=>x.2) (l++z4)).drop l.length=z4.map (·.2):=by
              rw [List.map_append,List.drop_left' (by simp)]
            rw [hd] at h K
            rw [List.map_append] at h
            have cl:=List.append_cancel_left h
            have S5:=a9.parts
            exact S.xC S5.1 hb.1 hb.2 an (fun a1 w' dV=>lg k (.ex .normal dj) σ' z4 a1 w' β cl S5.2 dV K)
    |_=>exact K a w β S
  |k+1,.ops ops i dj,σ,claims,a,w,β,h,a9,S,K=>by
    simp only [h8] at h K
    cases bN:ops.toList[i]? with
    |none=>
      simp only [bN] at h K
      have hle:ops.size<=i:=by
        have:=List.getElem?_eq_none_iff.1 bN
        simpa using this
      refine jX.done (Nat.ble_eq_true_of_le hle) ?_
      exact lg k (.ex .normal dj) σ claims a w β h a9 S K
    |some o=>
      simp only [bN] at h K
      cases he:gF P n ops [o] σ ((claims.map (·.2)).take 1) with
      |none=>simp only [he] at K;exact K a w β S
      |some r=>
        obtain⟨σ',l⟩:=r
        simp only [he] at h K
        cases l with
        |nil=>
          simp only at h K
          exact Q5 (claims:=[]) bN (abt he) .nil S (fun a1 w' cL dV=>lg k _ σ' claims a1 w' cL h a9 dV K)
        |cons c l=>
          obtain⟨q,x⟩:=c
          simp only at h K
          cases claims with
          |nil=>exact absurd (abr he) (by simp)
          |cons c z4=>
            obtain⟨ji,v⟩:=c
            have hl:=abq he rfl
            rw [hl] at he
            simp only [List.map_cons,List.drop_succ_cons,List.drop_zero,List.cons.injEq] at h K
            obtain⟨h1,an⟩:=h
            subst h1
            exact Q5 (claims:=[(q,v)]) bN he ⟨a9.1,trivial⟩ S (fun a1 w' cL dV=>lg k _ σ' z4 a1 w' cL an a9.2 dV K)
  |k+1,.ex e dj,σ,claims,a,w,β,h,a9,S,K=>by
    cases e with
    |normal=>
      cases dj with
      |nil=>exact K a w β S
      |cons f r=>
        cases f with
        |seq y=>exact lg k (.code y r) σ claims a w β h a9 S K
        |ta id=>exact lg k (.ex .normal r) σ claims a w β h a9 S K
        |ja f=>exact K a w β S
    |exit id=>
      cases dj with
      |nil=>exact K a w β S
      |cons f r=>
        cases f with
        |seq y=>exact lg k (.ex (.exit id) r) σ claims a w β h a9 S K
        |ja f=>exact lg k (.ex (.exit id) r) σ claims a w β h a9 S K
        |ta ET=>
          simp only [h8] at h K
          show(if id=ET then lE P Q r .normal a w else lE P Q r (.exit id) a w)
          cases hb:Nat.beq id ET with
          |true=>
            simp only [hb,cond_true] at h K
            rw [if_pos (Nat.eq_of_beq_eq_true hb)]
            exact lg k (.ex .normal r) σ claims a w β h a9 S K
          |false=>
            simp only [hb,cond_false] at h K
            rw [if_neg (fun e=>by subst e;simp at hb)]
            exact lg k (.ex (.exit id) r) σ claims a w β h a9 S K
    |ret=>
      show lE P Q dj .ret a w
      rw [CY]
      exact K a w β S
    |_=>exact K a w β S
def dq.go (P:Program) (n k:Nat) (er:List Value) (r:dq):dq:=h8 P n k r.cG r.σ er
structure dZ (P:Program) (Q:Exit->Act->World->Prop) (r:dq) (a:Act) (w:World):Prop where
  ok:eO.wp P Q r.cG a w
def eO.dj:eO->List Fr
  | .ops _ _ k=>k
  | .code _ k=>k
  | .ex _ k=>k
structure GG (P:Program) (Q:Exit->Act->World->Prop) (r:dq) (e:Exit) (a:Act) (w:World):Prop where
  ok:lE P Q r.cG.dj e a w
theorem aj.go {r:dq} (S:aj P n w0 M u N β r.σ a w) (k:Nat) {claims:List (Ask×Value)} (a9:fA P u N claims)
    (K:∀a1 w' cL,aj P n w0 M u N cL (r.go P n k (claims.map (·.2))).σ a1 w'->dZ P Q (r.go P n k (claims.map (·.2))) a1 w')
    (h:(r.go P n k (claims.map (·.2))).asks=claims.map (·.1):=by kernel_rfl):dZ P Q r a w:=⟨lg k r.cG r.σ claims a w β h a9 S fun a1 w' cL dV=>(K a1 w' cL dV).ok⟩
def eO.Wq:eO->Option Tmp
  | .code (.cond (.tmp t) _ _) _=>some t
  | .ops l i _=>match l.toList[i]? with
    |
      some o=>match o.guard with
      |
        some (j,_)=>(l.toList[j]?).bind (·.dst)
      |none=>match o.op with
        | .pick (.tmp t) _ _=>some t
        |_=>none
    |none=>none
  |_=>none
def dq.HT (r:dq):Option Bool:=
  match r.cG.Wq with
  |some t=>match look r.σ.env t with
    |some (.v (.bool e))=>some e
    |_=>none
  |none=>none
def b3.lit (σ:b3) (t:Option Tmp) (b:Bool):b3:=
  match t with
  |some t=>⟨(t,.v (.bool b))::σ.env,σ.aM⟩
  |none=>σ
def dq.lit (r:dq) (b:Bool):dq:=⟨r.cG,r.σ.lit r.cG.Wq b,[]⟩
def dq.lt (r:dq) (t:Tmp) (b:Bool):dq:=⟨r.cG,r.σ.lit (some t) b,[]⟩
theorem aj.lit (S:aj P n w0 M u N β σ a w) (t:Tmp) {e b:Bool} (h:e=b) (he:look σ.env t=some (.v (.bool e)):=by kernel_rfl):aj P n w0 M u N β (σ.lit (some t) b) a w:=by
  subst h
  refine⟨S.ml,S.aW,fun CT s hs=>?_,fun CT k o hs=>?_,S.box,S.inj,S.new,S.sep,S.fu,S.k8⟩
  · simp only [b3.lit,pE] at hs
    split at hs
    · rename_i h9;subst h9
      simp at hs;subst hs
      exact S.env _ _ he
    · exact S.env CT s hs
  · simp only [b3.lit,pE] at hs
    split at hs
    · cases hs
    · exact S.ok CT k o hs
theorem aj.lt {r:dq} (S:aj P n w0 M u N β r.σ a w) (t:Tmp) {e b:Bool} (h:e=b) (K:aj P n w0 M u N β (r.lt t b).σ a w->dZ P Q (r.lt t b) a w) (he:look r.σ.env t=some (.v (.bool e)):=by kernel_rfl):dZ P Q r a w:=⟨(K (S.lit t h he)).ok⟩
theorem aj.bd {r:dq} (S:aj P n w0 M u N β r.σ a w) (k:Nat) {claims:List (Ask×Value)} (a9:fA P u N claims) (e:Bool)
    (bx:∀a1 w' cL,e=true->aj P n w0 M u N cL ((r.go P n k (claims.map (·.2))).lit true).σ a1 w'->dZ P Q ((r.go P n k (claims.map (·.2))).lit true) a1 w')
    (bc:∀a1 w' cL,e=false->aj P n w0 M u N cL ((r.go P n k (claims.map (·.2))).lit false).σ a1 w'->dZ P Q ((r.go P n k (claims.map (·.2))).lit false) a1 w')
    (h:(r.go P n k (claims.map (·.2))).asks=claims.map (·.1):=by kernel_rfl) (cl:(r.go P n k (claims.map (·.2))).HT=some e:=by kernel_rfl):dZ P Q r a w:=
  S.go k a9 (fun a1 w' cL dV=>by
    generalize r.go P n k (claims.map (·.2))=r' at*
    unfold dq.HT at cl
    split at cl
    · rename_i t h1
      split at cl
      · rename_i h9 an
        simp at cl;subst cl
        have cu:∀b,r'.lit b=⟨r'.cG,r'.σ.lit (some t) b,[]⟩:=fun b=>by unfold dq.lit;rw [h1]
        cases h9 with
        |true=>rw [cu] at bx;exact⟨(bx a1 w' cL rfl (dV.lit t rfl an)).ok⟩
        |false=>rw [cu] at bc;exact⟨(bc a1 w' cL rfl (dV.lit t rfl an)).ok⟩
      · cases cl
    · cases cl) h
class xp (e:Bool) (T F:outParam Prop):Prop where
  t:e=true->T
  f:e=false->F
instance (p:Prop) [Decidable p]:xp (decide p) p (¬p):=⟨of_decide_eq_true,of_decide_eq_false⟩
instance {α:Type} [BEq α] [LawfulBEq α] (x y:α):xp (x==y) (x=y) (¬x=y):=⟨eq_of_beq,ne_of_beq_false⟩
instance {α:Type} [BEq α] [LawfulBEq α] (x y:α):xp (x != y) (¬x=y) (x=y):=⟨fun h=>bne_iff_ne.1 h,fun h=>by simpa using h⟩
theorem aj.aI {r:dq} (S:aj P n w0 M u N β r.σ a w) (k:Nat) {claims:List (Ask×Value)} (a9:fA P u N claims) (e:Bool) {T F:Prop} [xp e T F]
    (bx:∀a1 w' cL,e=true->T->aj P n w0 M u N cL ((r.go P n k (claims.map (·.2))).lit true).σ a1 w'->dZ P Q ((r.go P n k (claims.map (·.2))).lit true) a1 w')
    (bc:∀a1 w' cL,e=false->F->aj P n w0 M u N cL ((r.go P n k (claims.map (·.2))).lit false).σ a1 w'->dZ P Q ((r.go P n k (claims.map (·.2))).lit false) a1 w')
    (h:(r.go P n k (claims.map (·.2))).asks=claims.map (·.1):=by kernel_rfl) (cl:(r.go P n k (claims.map (·.2))).HT=some e:=by kernel_rfl):dZ P Q r a w:=
  S.bd k a9 e (fun a1 w' cL h=>bx a1 w' cL h (xp.t h)) (fun a1 w' cL h=>bc a1 w' cL h (xp.f h)) h cl
def eO.Dm:eO->Bool
  | .ex .ret []=>true
  | .ex .normal []=>true
  |_=>false
theorem Xw {cG:eO} (h:cG.Dm=true) {fn:Func} {cf:Ending->World->Prop} (h1:bodyPost P fn cf .ret a w) (an:bodyPost P fn cf .normal a w):eO.wp P (bodyPost P fn cf) cG a w:=by
  unfold eO.Dm at h
  split at h
  · exact h1
  · exact an
  · cases h
theorem aj.bo {r:dq} (S:aj P n w0 M u N β r.σ a w) (k:Nat) {claims:List (Ask×Value)} (a9:fA P u N claims) {fn:Func} {cf:Ending->World->Prop} (er:List Value)
    (K:∀a1 w' cL,aj P n w0 M u N cL (r.go P n k (claims.map (·.2))).σ a1 w'->cf (.returned (packed er)) w')
    (h:(r.go P n k (claims.map (·.2))).asks=claims.map (·.1):=by kernel_rfl) (bp:(r.go P n k (claims.map (·.2))).cG.Dm=true:=by kernel_rfl)
    (b2:pN P (r.go P n k (claims.map (·.2))).σ fn.results.toList=some er:=by kernel_rfl):dZ P (bodyPost P fn cf) r a w:=
  S.go k a9 (fun a1 w' cL dV=>⟨Xw bp (dV.ret b2 (K a1 w' cL dV)) (dV.Rd b2 (K a1 w' cL dV))⟩) h
theorem aj.aq {X:Ending} {r:dq} (S:aj P n w0 M u N β r.σ a w) (k:Nat) {claims:List (Ask×Value)} (a9:fA P u N claims) (er:List Value) {fn:Func} (e:Ending.returned (packed er)=X)
    (h:(r.go P n k (claims.map (·.2))).asks=claims.map (·.1):=by kernel_rfl) (bp:(r.go P n k (claims.map (·.2))).cG.Dm=true:=by kernel_rfl)
    (b2:pN P (r.go P n k (claims.map (·.2))).σ fn.results.toList=some er:=by kernel_rfl):dZ P (bodyPost P fn (fun e w'=>e=X/\bB M w0 w')) r a w:=
  S.bo k a9 er (fun a1 w' cL dV=>⟨e,dV.fu⟩) h bp b2
def eO.start (fn:Func):eO:= .code (fn.body.getD .skip) []
def dq.start (fn:Func) (args:List Value):dq:=⟨.start fn,⟨xu 0 args,[]⟩,[]⟩
theorem Calls.run {f:FuncId} {fn:Func} {args:List Value} {cf:Ending->World->Prop} (M:au) (bc:P.funcs[f]? =some fn)
    (h:∀a β,aj P fn.ntmps w M w (fc w.heap.size) β (dq.start fn args).σ a w->dZ P (bodyPost P fn cf) (dq.start fn args) a w)
    (hb:fn.body.isSome=true:=by kernel_rfl) (cY:Nat.ble args.length fn.ntmps=true:=by kernel_rfl):Calls P f args.toArray w cf:=by
  cases e:fn.body with
  |none=>rw [e] at hb;cases hb
  |some c=>
    refine Calls.walk M bc e cY fun a β S=>?_
    have:=(h a β S).ok
    simp only [dq.start,eO.start,e,Option.getD_some] at this
    exact this
def eO.opsOf:eO->Array Oper
  | .ops o _ _=>o
  | .code (.region _ o _) _=>o
  |_=>#[]
def eO.idx:eO->Nat
  | .ops _ i _=>i
  |_=>0
def eO.kJ:eO->Bool
  | .ops o i _=>Nat.blt i o.size
  |_=>false
def eO.LD:eO->eO
  | .ops o i k=> .ops o (i+1) k
  |cG=>cG
def dq.put (r:dq) (d:Tmp) (v:Value):dq:=⟨r.cG.LD,⟨(d,.v v)::r.σ.env,r.σ.aM⟩,[]⟩
def dq.rf (r:dq):dq:=⟨r.cG.LD,r.σ,[]⟩
def dq.tell (r:dq) (σ:b3):dq:=⟨r.cG,σ,[]⟩
def dq.Di (r:dq) (σ:b3):dq:=⟨.ex .normal r.cG.dj,σ,[]⟩
theorem lo (h:wpOp P cG.opsOf (lE P Q cG.dj) cG.idx (fun a1 w'=>eO.wp P Q cG.LD a1 w') a w) (hb:cG.kJ=true):eO.wp P Q cG a w:=by
  cases cG with
  |ops o i k=>exact jX.op hb h
  |_=>cases hb
abbrev dq.op (P:Program) (Q:Exit->Act->World->Prop) (r:dq) (K:Act->World->Prop) (a:Act) (w:World):Prop:=wpOp P r.cG.opsOf (lE P Q r.cG.dj) r.cG.idx K a w
theorem aj.is (S:aj P n w0 M u N β σ a w) {r:dq} (K:aj P n w0 M u N β (r.tell σ).σ a w->dZ P Q (r.tell σ) a w):dZ P Q r a w:=⟨(K S).ok⟩
def eO.Ts:eO->Bool
  | .code (.loop _) _=>true
  |_=>false
def eO.body:eO->Code
  | .code (.loop c) _=>c
  |_=> .skip
def dq.VU (r:dq) (f:Act->World->Prop) (σ:b3):dq:=⟨.code r.cG.body (.ja f::r.cG.dj),σ,[]⟩
structure OK (P:Program) (Q:Exit->Act->World->Prop) (r:dq) (f:Act->World->Prop) (a:Act) (w:World):Prop where
  ok:eO.wp P Q (.code r.cG.body (.ja f::r.cG.dj)) a w
structure Xb (Inv:Nat->Act->World->Prop) (m:Nat) (f:Act->World->Prop) where
  of:∀rb a w,rb<m->Inv rb a w->f a w
theorem c8 {r:dq} (Inv:Nat->Act->World->Prop) (m:Nat) (h0:Inv m a w) (round:∀(f:Act->World->Prop) m,Xb Inv m f->∀a w,Inv m a w->OK P Q r f a w) (h:r.cG.Ts=true:=by kernel_rfl):dZ P Q r a w:=by
  have ajy:=fun f m bc a w vo=>(round f m bc a w vo).ok
  refine⟨?_⟩
  generalize r.cG=cG at*
  unfold eO.Ts at h
  split at h
  · exact ak1 Inv m h0 fun m a w vo=>ajy _ m ⟨fun rb a w eW h=>⟨rb,eW,h⟩⟩ a w vo
  · cases h
theorem aj.rs (S:aj P n w0 M u N β σ a w) {r:dq} {f:Act->World->Prop} (K:aj P n w0 M u N β (r.VU f σ).σ a w->dZ P Q (r.VU f σ) a w):OK P Q r f a w:=⟨(K S).ok⟩
def eO.OU:eO->Option (Act->World->Prop)
  | .ex .normal (.ja f::_)=>some f
  |_=>none
theorem aj.ge {r:dq} (S:aj P n w0 M u N β r.σ a w) (k:Nat) {claims:List (Ask×Value)} (a9:fA P u N claims) (f:Act->World->Prop)
    (K:∀a1 w' cL,aj P n w0 M u N cL (r.go P n k (claims.map (·.2))).σ a1 w'->f a1 w')
    (h:(r.go P n k (claims.map (·.2))).asks=claims.map (·.1):=by kernel_rfl) (hs:(r.go P n k (claims.map (·.2))).cG.OU=some f:=by kernel_rfl):dZ P Q r a w:=
  S.go k a9 (fun a1 w' cL dV=>⟨by
    generalize (r.go P n k (claims.map (·.2))).cG=c at hs
    unfold eO.OU at hs
    split at hs
    · simp at hs;subst hs;exact K a1 w' cL dV
    · cases hs⟩) h
def eO.aaF:eO->Code
  | .code c _=>c
  |_=> .skip
def eO.Tq:eO->Bool
  | .code _ _=>true
  |_=>false
def dq.aw (r:dq):dq:=⟨.code r.cG.aaF [],r.σ,[]⟩
theorem iw {r:dq} (S:aj P n w0 M u N β r.σ a w) (aa:Act->World->Prop) (h:aj P n w0 M u N β r.aw.σ a w->dZ P (ld aa) r.aw a w) (k:∀a w,aa a w->GG P Q r .normal a w) (hc:r.cG.Tq=true:=by kernel_rfl):dZ P Q r a w:=by
  have h:=(h S).ok
  have fz:=fun a w vo=>(k a w vo).ok
  refine⟨?_⟩
  unfold dq.aw at h
  simp only at h
  generalize r.cG=cG at*
  cases cG with
  |code c dj=>exact me aa h fz
  |_=>cases hc
theorem aj.p5 {r:dq} (S:aj P n w0 M u N β r.σ a w) (σ':b3) (h:aj P n w0 M u N β r.aw.σ a w->dZ P (ld fun a w=>∃cL,aj P n w0 M u N cL σ' a w) r.aw a w) (k:∀a w cL,aj P n w0 M u N cL (r.Di σ').σ a w->dZ P Q (r.Di σ') a w) (hc:r.cG.Tq=true:=by kernel_rfl):dZ P Q r a w:=
  iw S _ h (fun a w ⟨cL,h⟩=>⟨(k a w cL h).ok⟩) hc
def eO.ajv:eO->Nat
  | .code (.region id _ _) _=>id
  |_=>0
def eO.Tr:eO->Bool
  | .code (.region _ _ true) _=>true
  |_=>false
theorem dI {r:dq} (h:(Code.region r.cG.ajv r.cG.opsOf true).wp P (GG P Q r) a w) (hc:r.cG.Tr=true:=by kernel_rfl):dZ P Q r a w:=by
  have h:=Code.wp_mono (Q':=lE P Q r.cG.dj) (fun _ _ _ h=>h.ok) h
  refine⟨?_⟩
  generalize r.cG=cG at*
  unfold eO.Tr at hc
  split at hc
  · exact h
  · cases hc
theorem aj.ex (S:aj P n w0 M u N β σ a w) {r:dq} (K:aj P n w0 M u N β (r.Di σ).σ a w->dZ P Q (r.Di σ) a w):GG P Q r .normal a w:=⟨(K S).ok⟩
def eO.atEnd:eO->Bool
  | .ex .normal []=>true
  |_=>false
theorem aj.dG {r:dq} (S:aj P n w0 M u N β r.σ a w) (k:Nat) {claims:List (Ask×Value)} (a9:fA P u N claims)
    (K:∀a1 w' cL,aj P n w0 M u N cL (r.go P n k (claims.map (·.2))).σ a1 w'->Q .normal a1 w')
    (h:(r.go P n k (claims.map (·.2))).asks=claims.map (·.1):=by kernel_rfl) (hs:(r.go P n k (claims.map (·.2))).cG.atEnd=true:=by kernel_rfl):dZ P Q r a w:=
  S.go k a9 (fun a1 w' cL dV=>⟨by
    generalize (r.go P n k (claims.map (·.2))).cG=c at hs
    unfold eO.atEnd at hs
    split at hs
    · exact K a1 w' cL dV
    · cases hs⟩) h
end
attribute [irreducible] dq.go h8
end Go.Proofs.YtjlocpdfcanlhaaGreat
namespace Go.Proofs.YtjlocpdfcanlhaaGreat
open Go
set_option linter.unusedVariables false
section
variable {P:Program} {n:Nat} {w0:World} {M:au} {u:World} {N:au} {β:Nat->Nat} {a:Act} {w:World} {Q:Exit->Act->World->Prop}
theorem aj.cJ {bT:dq} {α:Type} [GT α] {f:FuncId} {eN:List Value} {d:Tmp} {r:α} (S:aj P n w0 M u N β bT.σ a w) (hc:Calls P f eN.toArray w (dw ab w r)) (K:∀a1 w' aB q F,aj P n w0 M w' aB β (bT.put d (GT.val r q)).σ a1 w'->(∀b,N b->aB b/\w'.heap[b]? =u.heap[b]?)->ad w0 M w' aB F r q->J N F->dZ P Q (bT.put d (GT.val r q)) a1 w') (hcall:kz P n bT.cG.opsOf bT.cG.idx bT.σ=some (f,eN,d):=by kernel_rfl) (hd:Nat.blt d n=true:=by kernel_rfl) (cb:bT.cG.kJ=true:=by kernel_rfl):dZ P Q bT a w:=
  ⟨lo (aj.Qk S (hc:=hc) (hcall:=hcall) (hd:=hd) (K:=fun _ _ _ _ _ h0 h1 an aF=>(K _ _ _ _ _ h0 h1 an aF).ok)) cb⟩
theorem aj.qN {bT:dq} {α gD:Type} [GT α] [GT gD] {f:FuncId} {eN:List Value} {d:Tmp} {r:α} {r':gD} (S:aj P n w0 M u N β bT.σ a w) (hc:Calls P f eN.toArray w (o4 ab w r r')) (K:∀a1 w' aB q ji F bU,aj P n w0 M w' aB β (bT.put d (.tuple #[GT.val r q,GT.val r' ji])).σ a1 w'->(∀b,N b->aB b/\w'.heap[b]? =u.heap[b]?)->ad w0 M w' aB F r q->ad w0 M w' aB bU r' ji->J N F->J N bU->J F bU->dZ P Q (bT.put d (.tuple #[GT.val r q,GT.val r' ji])) a1 w') (hcall:kz P n bT.cG.opsOf bT.cG.idx bT.σ=some (f,eN,d):=by kernel_rfl) (hd:Nat.blt d n=true:=by kernel_rfl) (cb:bT.cG.kJ=true:=by kernel_rfl):dZ P Q bT a w:=
  ⟨lo (aj.call2 S (hc:=hc) (hcall:=hcall) (hd:=hd) (K:=fun _ _ _ _ _ _ _ h0 h1 an aF b1 bm cS=>(K _ _ _ _ _ _ _ h0 h1 an aF b1 bm cS).ok)) cb⟩
theorem aj.W_ {bT:dq} {α:Type} [GT α] {f:FuncId} {eN:List Value} {d:Tmp} {r:α} {r':Int} {r'':Bool} (S:aj P n w0 M u N β bT.σ a w) (hc:Calls P f eN.toArray w (zG ab w r r' r'')) (K:∀a1 w' aB q F,aj P n w0 M w' aB β (bT.put d (.tuple #[GT.val r q,aa r',B r''])).σ a1 w'->(∀b,N b->aB b/\w'.heap[b]? =u.heap[b]?)->ad w0 M w' aB F r q->J N F->a_ r'->dZ P Q (bT.put d (.tuple #[GT.val r q,aa r',B r''])) a1 w') (hcall:kz P n bT.cG.opsOf bT.cG.idx bT.σ=some (f,eN,d):=by kernel_rfl) (hd:Nat.blt d n=true:=by kernel_rfl) (cb:bT.cG.kJ=true:=by kernel_rfl):dZ P Q bT a w:=
  ⟨lo (aj.call3 S (hc:=hc) (hcall:=hcall) (hd:=hd) (K:=fun _ _ _ _ _ h0 h1 an aF b1=>(K _ _ _ _ _ h0 h1 an aF b1).ok)) cb⟩
theorem aj.kc {bT:dq} {α:Type} [GT α] [aS α] {hd:α->Int->Int} {F:au} {x:α} {p:GT.Ptr α} {k:Int} {f:FuncId} {eN:List Value} {d:Tmp} (S:aj P n w0 M u N β bT.σ a w) (o:ad w0 M u N F x p) (hc:Calls P f eN.toArray w (og hd F w p x k)) (K:∀a1 w' aB p' y fz,aj P n w0 M w' aB β (bT.put d (aa fz)).σ a1 w'->(∀b,N b->¬F b->aB b/\w'.heap[b]? =u.heap[b]?)->ad w0 M w' aB F y p'->GT.cells y p'=GT.cells x p->hd y k=fz->k<=fz->fz<=k+16*(aS.aW x:Nat)->dZ P Q (bT.put d (aa fz)) a1 w') (hcall:kz P n bT.cG.opsOf bT.cG.idx bT.σ=some (f,eN,d):=by kernel_rfl) (hd':Nat.blt d n=true:=by kernel_rfl) (cb:bT.cG.kJ=true:=by kernel_rfl):dZ P Q bT a w:=
  ⟨lo (aj.aaz S (o:=o) (hc:=hc) (hcall:=hcall) (hd':=hd') (K:=fun _ _ _ _ _ _ h0 h1 an aF b1 bm cS=>(K _ _ _ _ _ _ h0 h1 an aF b1 bm cS).ok)) cb⟩
theorem aj.OE {bT:dq} {α gD:Type} [GT α] [GT gD] {F:au} {x:α} {p:GT.Ptr α} {f:FuncId} {eN:List Value} {d:Tmp} {r Y:gD} (S:aj P n w0 M u N β bT.σ a w) (o:ad w0 M u N F x p) (hY:Y=r) (hc:Calls P f eN.toArray w (uN F F w r)) (K:∀a1 w' aB q bU,aj P n w0 M w' aB β (bT.put d (GT.val Y q)).σ a1 w'->(∀b,N b->¬F b->aB b/\w'.heap[b]? =u.heap[b]?)->ad w0 M w' aB bU Y q->(∀G:au,J G F->(∀b,G b->N b)->J G bU)->dZ P Q (bT.put d (GT.val Y q)) a1 w') (hcall:kz P n bT.cG.opsOf bT.cG.idx bT.σ=some (f,eN,d):=by kernel_rfl) (hd:Nat.blt d n=true:=by kernel_rfl) (cb:bT.cG.kJ=true:=by kernel_rfl):dZ P Q bT a w:=
  ⟨lo (aj.aay S (o:=o) (hY:=hY) (hc:=hc) (hcall:=hcall) (hd:=hd) (K:=fun _ _ _ _ _ h0 h1 an aF=>(K _ _ _ _ _ h0 h1 an aF).ok)) cb⟩
theorem aj.uM {bT:dq} {α:Type} [GT α] {cf:GT.Ptr α->GT.Ptr α->Prop} {F:au} {x:α} {b5:aD α} {f:FuncId} {eN:List Value} {d:Tmp} {v:Value} {h2:α} (S:aj P n w0 M u N β bT.σ a w) (o:ad w0 M u N F [x] b5) (hc:Calls P f eN.toArray w (s7 cf F b5 w v h2)) (K:∀lf w' aB cx bU,aj P n w0 M w' aB β (bT.put d v).σ lf w'->(∀b,N b->¬F b->aB b/\w'.heap[b]? =u.heap[b]?)->ad w0 M w' aB bU [h2] ((b5.1,cx):aD α)->(∀G:au,J G F->(∀b,G b->N b)->J G bU)->cf (b5.2 0) (cx 0)->dZ P Q (bT.put d v) lf w') (hcall:kz P n bT.cG.opsOf bT.cG.idx bT.σ=some (f,eN,d):=by kernel_rfl) (hd:Nat.blt d n=true:=by kernel_rfl) (cb:bT.cG.kJ=true:=by kernel_rfl):dZ P Q bT a w:=
  ⟨lo (aj.aav S (o:=o) (hc:=hc) (hcall:=hcall) (hd:=hd) (K:=fun _ _ _ _ _ h0 h1 an aF b1=>(K _ _ _ _ _ h0 h1 an aF b1).ok)) cb⟩
theorem aj.mT {bT:dq} {α:Type} [GT α] {m by':Nat} {d:Tmp} (S:aj P n w0 M u N β bT.σ a w) (hb:by'*m<=281474976710656) (hm:m<=b6) (K:∀a1 w' aB q F,aj P n w0 M w' aB β (bT.put d (R m q.1)).σ a1 w'->(∀b,N b->aB b/\w'.heap[b]? =u.heap[b]?)->
      ad w0 M w' aB F (List.replicate m (GT.eR:α)) q->J N F->dZ P Q (bT.put d (R m q.1)) a1 w') (hop:Lm P n bT.cG.opsOf bT.cG.idx bT.σ=some (aa m,GT.cells (GT.eR:α) GT.cZ,by',GT.width α,d):=by kernel_rfl) (cb:bT.cG.kJ=true:=by kernel_rfl):dZ P Q bT a w:=
  ⟨lo (aj.make S (hop:=hop) (hb:=hb) (hm:=hm) (K:=fun _ _ _ _ _ h0 h1 an aF=>(K _ _ _ _ _ h0 h1 an aF).ok)) cb⟩
theorem aj.gE {bT:dq} {α:Type} [GT α] {d:Tmp} (S:aj P n w0 M u N β bT.σ a w) (K:∀a1 w' aB q F,aj P n w0 M w' aB β (bT.put d (R 0 q.1)).σ a1 w'->(∀b,N b->aB b/\w'.heap[b]? =u.heap[b]?)->
      ad w0 M w' aB F ([]:List α) q->J N F->dZ P Q (bT.put d (R 0 q.1)) a1 w') (hop:xy P n bT.cG.opsOf bT.cG.idx bT.σ=some ([],0,d):=by kernel_rfl) (cb:bT.cG.kJ=true:=by kernel_rfl):dZ P Q bT a w:=
  ⟨lo (aj.fH S (hop:=hop) (K:=fun _ _ _ _ _ h0 h1 an aF=>(K _ _ _ _ _ h0 h1 an aF).ok)) cb⟩
theorem aj.h3 {bT:dq} {α:Type} [GT α] {x:α} {p:GT.Ptr α} {F:au} {d:Tmp} (S:aj P n w0 M u N β bT.σ a w) (hx:GT.own b6 F u x p) (hN:∀b,F b->N b) (hY:∀b,F b->w0.heap.size<=b\/M b) (K:∀a1 w' aB q bU,aj P n w0 M w' aB β (bT.put d (R 1 q.1)).σ a1 w'->(∀b,N b->aB b/\w'.heap[b]? =u.heap[b]?)->
      ad w0 M w' aB bU [x] q->(∀G:au,J G F->(∀b,G b->N b)->J G bU)->dZ P Q (bT.put d (R 1 q.1)) a1 w') (hop:xy P n bT.cG.opsOf bT.cG.idx bT.σ=some (GT.cells x p,1,d):=by kernel_rfl) (cb:bT.cG.kJ=true:=by kernel_rfl):dZ P Q bT a w:=
  ⟨lo (aj.p2 S (hx:=hx) (hN:=hN) (hY:=hY) (hop:=hop) (K:=fun _ _ _ _ _ h0 h1 an aF=>(K _ _ _ _ _ h0 h1 an aF).ok)) cb⟩
theorem aj.w_ {bT:dq} {α:Type} [GT α] {xs bl:List α} {p q:aD α} {F Fy:au} {by' lx ly:Nat} {d:Tmp} (S:aj P n w0 M u N β bT.σ a w) (hx:ad w0 M u N F xs p) (hy:ad w0 M u N Fy bl q) (hd:J F Fy) (hlx:lx=xs.length) (hly:ly=bl.length) (hl:xs.length+bl.length<=b6) (K:∀a1 w' aB r bU,aj P n w0 M w' aB β (bT.put d (R (xs++bl).length r.1)).σ a1 w'->(∀b,N b->¬F b->aB b/\w'.heap[b]? =u.heap[b]?)->
      ad w0 M w' aB bU (xs++bl) r->(∀G:au,J G F->J G Fy->(∀b,G b->N b)->J G bU)->dZ P Q (bT.put d (R (xs++bl).length r.1)) a1 w') (hop:rT P n bT.cG.opsOf bT.cG.idx bT.σ=some (R lx p.1,R ly q.1,GT.width α,by',d):=by kernel_rfl) (cb:bT.cG.kJ=true:=by kernel_rfl):dZ P Q bT a w:=
  ⟨lo (aj.Dk S (hx:=hx) (hy:=hy) (hd:=hd) (hlx:=hlx) (hly:=hly) (hop:=hop) (hl:=hl) (K:=fun _ _ _ _ _ h0 h1 an aF=>(K _ _ _ _ _ h0 h1 an aF).ok)) cb⟩
theorem aj.kq {bT:dq} {α:Type} [GT α] {xs bl:List α} {p q:aD α} {F:au} {by' lx ly:Nat} {d:Tmp} (S:aj P n w0 M u N β bT.σ a w) (hx:ad w0 M u N F xs p) (hyr:s8 u N bl q) (hfl:∀(x:α) (r:GT.Ptr α),GT.rd b6 N u x r->GT.own b6 ab u x r) (hlx:lx=xs.length) (hly:ly=bl.length) (hl:xs.length+bl.length<=b6) (K:∀a1 w' aB r bU,aj P n w0 M w' aB β (bT.put d (R (xs++bl).length r.1)).σ a1 w'->(∀b,N b->¬F b->aB b/\w'.heap[b]? =u.heap[b]?)->
      ad w0 M w' aB bU (xs++bl) r->(∀G:au,J G F->(∀b,G b->N b)->J G bU)->dZ P Q (bT.put d (R (xs++bl).length r.1)) a1 w') (hop:rT P n bT.cG.opsOf bT.cG.idx bT.σ=some (R lx p.1,R ly q.1,GT.width α,by',d):=by kernel_rfl) (cb:bT.cG.kJ=true:=by kernel_rfl):dZ P Q bT a w:=
  ⟨lo (aj.Dj S (hx:=hx) (hyr:=hyr) (hfl:=hfl) (hlx:=hlx) (hly:=hly) (hop:=hop) (hl:=hl) (K:=fun _ _ _ _ _ h0 h1 an aF=>(K _ _ _ _ _ h0 h1 an aF).ok)) cb⟩
theorem aj.lG {bT:dq} {α:Type} [GT α] {bl:List α} {p q:aD α} {F:au} {by' lx ly:Nat} {d:Tmp} (S:aj P n w0 M u N β bT.σ a w) (hx:ad w0 M u N F ([]:List α) p) (hyr:s8 u N bl q) (hfl:∀(x:α) (r:GT.Ptr α),GT.rd b6 N u x r->GT.own b6 ab u x r) (hly:ly=bl.length) (K:∀a1 w' aB r bU,aj P n w0 M w' aB β (bT.put d (R bl.length r.1)).σ a1 w'->(∀b,N b->¬F b->aB b/\w'.heap[b]? =u.heap[b]?)->
      ad w0 M w' aB bU bl r->(∀G:au,J G F->(∀b,G b->N b)->J G bU)->dZ P Q (bT.put d (R bl.length r.1)) a1 w') (hlx:lx=0:=by rfl) (hop:rT P n bT.cG.opsOf bT.cG.idx bT.σ=some (R lx p.1,R ly q.1,GT.width α,by',d):=by kernel_rfl) (cb:bT.cG.kJ=true:=by kernel_rfl):dZ P Q bT a w:=
  ⟨lo (aj.lK S (hx:=hx) (hyr:=hyr) (hfl:=hfl) (hly:=hly) (hlx:=hlx) (hop:=hop) (K:=fun _ _ _ _ _ h0 h1 an aF=>(K _ _ _ _ _ h0 h1 an aF).ok)) cb⟩
theorem aj.Xp {bT:dq} {α:Type} [GT α] {xs:List α} {p:aD α} {F Fy:au} {k j off:Nat} {t:TypeId} {v:Value} {y:α} {q:GT.Ptr α} (S:aj P n w0 M u N β bT.σ a w) (hx:ad w0 M u N F xs p) (hy:∀G,GT.own b6 G u (el xs k) (p.2 k)->(∀b,G b->F b)->∃gO,GT.own b6 gO u y q/\∀b,gO b->G b\/Fy b) (hd:J F Fy) (hyN:∀b,Fy b->N b) (hyY:∀b,Fy b->w0.heap.size<=b\/M b) (K:∀w' aB bU cx,aj P n w0 M w' aB β bT.rf.σ a w'->(∀b,N b->¬F b->aB b/\w'.heap[b]? =u.heap[b]?)->
      ad w0 M w' aB bU (xs.set k y) (p.1,cx)->(∀G:au,J G F->J G Fy->(∀b,G b->N b)->J G bU)->(∀b,bU b->F b\/Fy b)->(∀b,N b->aB b)->dZ P Q bT.rf a w') (hop:pR bT.cG.opsOf bT.cG.idx bT.σ=some (t,bh p.1.b off,v):=by kernel_rfl) (hoff:off=p.1.off+k*GT.width α+j:=by kernel_rfl) (hk:k<xs.length:=by omega) (hs:jn P t=some v.cells.toList.length:=by kernel_rfl) (hpl:v.cells.toList.all (·.oneCell')=true:=by kernel_rfl) (hjw:Nat.ble (j+v.cells.toList.length) (GT.width α)=true:=by kernel_rfl) (hc:GT.cells y q=(GT.cells (el xs k) (p.2 k)).take j++v.cells.toList++(GT.cells (el xs k) (p.2 k)).drop (j+v.cells.toList.length):=by kernel_rfl) (cb:bT.cG.kJ=true:=by kernel_rfl):dZ P Q bT a w:=
  ⟨lo (aj.akm S (hx:=hx) (hy:=hy) (hd:=hd) (hyN:=hyN) (hyY:=hyY) (hop:=hop) (hoff:=hoff) (hk:=hk) (hs:=hs) (hpl:=hpl) (hjw:=hjw) (hc:=hc) (K:=fun _ _ _ _ h0 h1 an aF b1 bm=>(K _ _ _ _ h0 h1 an aF b1 bm).ok)) cb⟩
theorem aj.fQ {bT:dq} {α:Type} [GT α] {xs:List α} {p:aD α} {F:au} {k j off:Nat} {t:TypeId} {v:Value} {y:α} {q:GT.Ptr α} (S:aj P n w0 M u N β bT.σ a w) (hx:ad w0 M u N F xs p) (hy:∀G,GT.own b6 G u (el xs k) (p.2 k)->(∀b,G b->F b)->∃gO,GT.own b6 gO u y q/\∀b,gO b->G b\/ab b) (K:∀w' aB bU cx,aj P n w0 M w' aB β bT.rf.σ a w'->(∀b,N b->¬F b->aB b/\w'.heap[b]? =u.heap[b]?)->
      ad w0 M w' aB bU (xs.set k y) (p.1,cx)->(∀G:au,J G F->J G ab->(∀b,G b->N b)->J G bU)->(∀b,bU b->F b\/ab b)->(∀b,N b->aB b)->dZ P Q bT.rf a w') (hop:pR bT.cG.opsOf bT.cG.idx bT.σ=some (t,bh p.1.b off,v):=by kernel_rfl) (hoff:off=p.1.off+k*GT.width α+j:=by kernel_rfl) (hk:k<xs.length:=by omega) (hs:jn P t=some v.cells.toList.length:=by kernel_rfl) (hpl:v.cells.toList.all (·.oneCell')=true:=by kernel_rfl) (hjw:Nat.ble (j+v.cells.toList.length) (GT.width α)=true:=by kernel_rfl) (hc:GT.cells y q=(GT.cells (el xs k) (p.2 k)).take j++v.cells.toList++(GT.cells (el xs k) (p.2 k)).drop (j+v.cells.toList.length):=by kernel_rfl) (cb:bT.cG.kJ=true:=by kernel_rfl):dZ P Q bT a w:=
  ⟨lo (aj.zi S (hx:=hx) (hy:=hy) (hop:=hop) (hoff:=hoff) (hk:=hk) (hs:=hs) (hpl:=hpl) (hjw:=hjw) (hc:=hc) (K:=fun _ _ _ _ h0 h1 an aF b1 bm=>(K _ _ _ _ h0 h1 an aF b1 bm).ok)) cb⟩
theorem aj.eQ {bT:dq} {α:Type} [GT α] {xs:List α} {p:aD α} {F Fy:au} {k off:Nat} {t:TypeId} {y:α} {q:GT.Ptr α} (S:aj P n w0 M u N β bT.σ a w) (hx:ad w0 M u N F xs p) (hy:ad w0 M u N Fy y q) (hd:J F Fy) (K:∀w' aB bU cx,aj P n w0 M w' aB β bT.rf.σ a w'->(∀b,N b->¬F b->aB b/\w'.heap[b]? =u.heap[b]?)->
      ad w0 M w' aB bU (xs.set k y) (p.1,cx)->(∀G:au,J G F->J G Fy->(∀b,G b->N b)->J G bU)->(∀b,bU b->F b\/Fy b)->(∀b,N b->aB b)->dZ P Q bT.rf a w') (hop:pR bT.cG.opsOf bT.cG.idx bT.σ=some (t,bh p.1.b off,GT.val y q):=by kernel_rfl) (hoff:off=p.1.off+k*GT.width α+0:=by kernel_rfl) (hk:k<xs.length:=by omega) (hs:jn P t=some (GT.val y q).cells.toList.length:=by kernel_rfl) (hpl:(GT.val y q).cells.toList.all (·.oneCell')=true:=by kernel_rfl) (hjw:Nat.ble (0+(GT.val y q).cells.toList.length) (GT.width α)=true:=by kernel_rfl) (hc:GT.cells y q=(GT.cells (el xs k) (p.2 k)).take 0++(GT.val y q).cells.toList++(GT.cells (el xs k) (p.2 k)).drop (0+(GT.val y q).cells.toList.length):=by kernel_rfl) (cb:bT.cG.kJ=true:=by kernel_rfl):dZ P Q bT a w:=
  ⟨lo (aj.kU S (hx:=hx) (hy:=hy) (hd:=hd) (hop:=hop) (hoff:=hoff) (hk:=hk) (hs:=hs) (hpl:=hpl) (hjw:=hjw) (hc:=hc) (K:=fun _ _ _ _ h0 h1 an aF b1 bm=>(K _ _ _ _ h0 h1 an aF b1 bm).ok)) cb⟩
theorem aj.zJ {bT:dq} {α:Type} [GT α] {xs:List α} {p:aD α} {F Fy:au} {k j off:Nat} {t:TypeId} {v:Value} {y:α} {q:GT.Ptr α} (S:aj P n w0 M u N β bT.σ a w) (hx:ad w0 M u N F xs p) (hk:k<xs.length) (hjw:j+v.cells.toList.length<=GT.width α) (hy:∀G,GT.own b6 G u (el xs k) (p.2 k)->(∀b,G b->F b)->∃gO,GT.own b6 gO u y q/\∀b,gO b->G b\/Fy b) (hd:J F Fy) (hyN:∀b,Fy b->N b) (hyY:∀b,Fy b->w0.heap.size<=b\/M b) (K:∀w' aB bU cx,aj P n w0 M w' aB β bT.rf.σ a w'->(∀b,N b->¬F b->aB b/\w'.heap[b]? =u.heap[b]?)->
      ad w0 M w' aB bU (xs.set k y) (p.1,cx)->(∀G:au,J G F->J G Fy->(∀b,G b->N b)->J G bU)->(∀b,bU b->F b\/Fy b)->(∀b,N b->aB b)->dZ P Q bT.rf a w') (hop:pR bT.cG.opsOf bT.cG.idx bT.σ=some (t,bh p.1.b off,v):=by kernel_rfl) (hoff:off=p.1.off+k*GT.width α+j:=by kernel_rfl) (hs:jn P t=some v.cells.toList.length:=by kernel_rfl) (hpl:v.cells.toList.all (·.oneCell')=true:=by kernel_rfl) (hc:GT.cells y q=(GT.cells (el xs k) (p.2 k)).take j++v.cells.toList++(GT.cells (el xs k) (p.2 k)).drop (j+v.cells.toList.length):=by kernel_rfl) (cb:bT.cG.kJ=true:=by kernel_rfl):dZ P Q bT a w:=
  ⟨lo (aj.Gl S (hx:=hx) (hop:=hop) (hoff:=hoff) (hk:=hk) (hs:=hs) (hpl:=hpl) (hjw:=hjw) (hc:=hc) (hy:=hy) (hd:=hd) (hyN:=hyN) (hyY:=hyY) (K:=fun _ _ _ _ h0 h1 an aF b1 bm=>(K _ _ _ _ h0 h1 an aF b1 bm).ok)) cb⟩
theorem aj.Hs {bT:dq} {α:Type} [GT α] {xs:List α} {p:aD α} {F Fy:au} {k j off:Nat} {t:TypeId} {v:Value} {y:α} {q:GT.Ptr α} (S:aj P n w0 M u N β bT.σ a w) (hx:ad w0 M u N F xs p) (hk:k<xs.length) (hjw:j+v.cells.toList.length<=GT.width α) (hy:∀G,GT.own b6 G u (el xs k) (p.2 k)->(∀b,G b->F b)->∃gO,GT.own b6 gO u y q/\∀b,gO b->G b\/Fy b) (hd:J F Fy) (hyN:∀b,Fy b->N b) (hyY:∀b,Fy b->w0.heap.size<=b\/M b) (K:∀w' aB bU,aj P n w0 M w' aB β bT.rf.σ a w'->(∀b,N b->¬F b->aB b/\w'.heap[b]? =u.heap[b]?)->
      ad w0 M w' aB bU (xs.set k y) ((p.1,fun i=>if i=k then q else p.2 i):aD α)->(∀G:au,J G F->J G Fy->(∀b,G b->N b)->J G bU)->(∀b,bU b->F b\/Fy b)->(∀b,N b->aB b)->dZ P Q bT.rf a w') (hop:pR bT.cG.opsOf bT.cG.idx bT.σ=some (t,bh p.1.b off,v):=by kernel_rfl) (hoff:off=p.1.off+k*GT.width α+j:=by kernel_rfl) (hs:jn P t=some v.cells.toList.length:=by kernel_rfl) (hpl:v.cells.toList.all (·.oneCell')=true:=by kernel_rfl) (hc:GT.cells y q=(GT.cells (el xs k) (p.2 k)).take j++v.cells.toList++(GT.cells (el xs k) (p.2 k)).drop (j+v.cells.toList.length):=by kernel_rfl) (cb:bT.cG.kJ=true:=by kernel_rfl):dZ P Q bT a w:=
  ⟨lo (aj.qD S (hx:=hx) (hop:=hop) (hoff:=hoff) (hk:=hk) (hs:=hs) (hpl:=hpl) (hjw:=hjw) (hc:=hc) (hy:=hy) (hd:=hd) (hyN:=hyN) (hyY:=hyY) (K:=fun _ _ _ h0 h1 an aF b1 bm=>(K _ _ _ h0 h1 an aF b1 bm).ok)) cb⟩
def dq.nU (r:dq) (k b:Nat):dq:=⟨r.cG,r.σ.nU k b,[]⟩
theorem aj.Hn {bT:dq} (S:aj P n w0 M u N β bT.σ a w) {α:Type} [GT α] (k:Nat) (x:α) (p:GT.Ptr α) (hx:GT.own b6 ab w x p)
    (K:∀(cL:Nat->Nat) (aB:au) (b:Nat) (F:au),aj P n w0 M w aB cL (bT.nU k b).σ a w->(∀b,N b->aB b/\w.heap[b]? =u.heap[b]?)->ad w0 M w aB F [x] (dC b p)->J N F->dZ P Q (bT.nU k b) a w)
    (hk:bT.σ.aM[k]? =some (GT.cells x p):=by kernel_rfl):dZ P Q bT a w:=⟨S.nU k x p hx (fun cL aB b F h0 h1 an aF=>(K cL aB b F h0 h1 an aF).ok) hk⟩
theorem aj.W8 {bT:dq} (S:aj P n w0 M u N β bT.σ a w) {α:Type} [GT α] (k:Nat) {x:α} {p:GT.Ptr α} {uL:au} (hx:ad w0 M u N uL x p)
    (K:∀(cL:Nat->Nat) (aB:au) (b:Nat) (F:au),aj P n w0 M w aB cL (bT.nU k b).σ a w->(∀b,N b->aB b/\w.heap[b]? =u.heap[b]?)->ad w0 M w aB F [x] (dC b p)->(∀H:au,J H uL->(∀b,H b->N b)->J H F)->dZ P Q (bT.nU k b) a w)
    (hk:bT.σ.aM[k]? =some (GT.cells x p):=by kernel_rfl):dZ P Q bT a w:=⟨S.acg k hx (fun cL aB b F h0 h1 an aF=>(K cL aB b F h0 h1 an aF).ok) hk⟩
end
end Go.Proofs.YtjlocpdfcanlhaaGreat
namespace Go.Proofs.YtjlocpdfcanlhaaGreat
open Go
def qW (x:Int):Int:=(Lib.bitLen x.toNat:Int)
def gr (p:Int):Int:=if a3 p 0 255=true then qW p-1 else-1
def p1 (p n:Nat):Bool:=jK (sV (p:Int) (n:Int)) 1==1
theorem akK:(List.range 256).all (fun p=>(List.range 8).all fun n=>(!p1 p n|| !((List.range 8).all fun j=>decide (j<=n)|| !p1 p j))||((Lib.bitLen p:Int)-1==n))=true:=by kernel_rfl
theorem akL:(List.range 256).all (fun p=>!((List.range 8).all fun j=>!p1 p j)||((Lib.bitLen p:Int)-1== -1))=true:=by kernel_rfl
theorem akJ:(List.range 256).all (fun p=>decide (Lib.bitLen p<=8))=true:=by kernel_rfl
theorem akG:(List.range 256).all (fun p=>Lib.bitLen p==0||(IntKind.i64.wrap ((p:Int)-oX 1 ((Lib.bitLen p:Int)-1))==wm (p:Int) (oX 1 ((Lib.bitLen p:Int)-1))))=true:=by kernel_rfl
theorem akH {p n:Int} (bC:a3 p 0 255=true) (cY:-1<=n/\n<=7) (h0:0<=n) (hb:jK (sV p n) 1=1) (ay:∀j:Nat,n<(j:Int)->j<8->¬jK (sV p (j:Int)) 1=1):gr p=n:=by
  have h1:=cV bC
  obtain⟨q,rfl⟩:=Int.eq_ofNat_of_zero_le h1.1
  obtain⟨m,rfl⟩:=Int.eq_ofNat_of_zero_le h0
  have hx:=List.all_eq_true.1 (List.all_eq_true.1 akK q (List.mem_range.2 (by omega))) m (List.mem_range.2 (by omega))
  have cu:p1 q m=true:=by unfold p1;exact beq_iff_eq.2 hb
  have cB:((List.range 8).all fun j=>decide (j<=m)|| !p1 q j)=true:=by
    rw [List.all_eq_true]
    intro j bZ
    by_cases aeQ:j<=m
    · simp [aeQ]
    · have:=ay j (by omega) (List.mem_range.1 bZ)
      have fo:p1 q j=false:=by unfold p1;exact beq_eq_false_iff_ne.2 this
      simp [fo]
  rw [cu,cB] at hx
  simp only [Bool.not_true,Bool.or_self,Bool.false_or,beq_iff_eq] at hx
  unfold gr qW
  rw [if_pos bC]
  exact hx
theorem akI {p n:Int} (bC:a3 p 0 255=true) (h0:n<0) (ay:∀j:Nat,n<(j:Int)->j<8->¬jK (sV p (j:Int)) 1=1):gr p=-1:=by
  have h1:=cV bC
  obtain⟨q,rfl⟩:=Int.eq_ofNat_of_zero_le h1.1
  have hx:=List.all_eq_true.1 akL q (List.mem_range.2 (by omega))
  have cB:((List.range 8).all fun j=>!p1 q j)=true:=by
    rw [List.all_eq_true]
    intro j bZ
    have:=ay j (by omega) (List.mem_range.1 bZ)
    have fo:p1 q j=false:=by unfold p1;exact beq_eq_false_iff_ne.2 this
    simp [fo]
  rw [cB] at hx
  simp only [Bool.not_true,Bool.false_or,beq_iff_eq] at hx
  unfold gr qW
  rw [if_pos bC]
  exact hx
theorem N1 {p:Int} (bC:a3 p 0 255=false):gr p=-1:=by
  unfold gr;rw [if_neg (by simp [bC])]
theorem CV (p:Int):-1<=gr p/\gr p<=7:=by
  unfold gr
  split
  · rename_i bC
    have h1:=cV bC
    have:=List.all_eq_true.1 akJ p.toNat (List.mem_range.2 (by omega))
    have:=of_decide_eq_true this
    unfold qW
    omega
  · omega
def eK (p:Int):Int×Int×Bool:=if gr p<0 then(p,-1,false) else(wm p (oX 1 (gr p)),gr p,true)
theorem Gy {p:Int} (h:¬gr p<0):IntKind.i64.wrap (p-oX 1 (gr p))=wm p (oX 1 (gr p)):=by
  unfold gr at h ⊢
  by_cases bC:a3 p 0 255=true
  · rw [if_pos bC] at h ⊢
    have h1:=cV bC
    obtain⟨q,rfl⟩:=Int.eq_ofNat_of_zero_le h1.1
    have hx:=List.all_eq_true.1 akG q (List.mem_range.2 (by omega))
    have ej:(Lib.bitLen q==0)=false:=by
      rw [beq_eq_false_iff_ne]
      intro e
      apply h
      show(Lib.bitLen q:Int)-1<0
      omega
    rw [ej] at hx
    simp only [Bool.false_or,beq_iff_eq] at hx
    exact hx
  · rw [if_neg bC] at h
    exact absurd (by decide) h
def IH (b:cP):cP×Int×Bool:=
  if jC b=true/\(eK b.aC).2.2=true then(⟨b.mem,b.U,b.outs,(eK b.aC).1⟩,(eK b.aC).2.1,true) else(b,-1,false)
theorem Wj {p:Int} (h:a_ p):a_ (eK p).1:=by
  unfold eK
  split
  · exact h
  · exact agA _ _
theorem bitLenAux_le:∀(f x:Nat),Lib.bitLenAux f x<=f
  |
    0,_=>Nat.le_refl _
  |f+1,x=>by
    unfold Lib.bitLenAux
    split
    · omega
    · have:=bitLenAux_le f (x / 2)
      omega
theorem Yd (x:Int):0<=qW x/\qW x<=64:=by
  have:=bitLenAux_le 64 x.toNat
  unfold qW Lib.bitLen
  omega
end Go.Proofs.YtjlocpdfcanlhaaGreat
namespace Go.Proofs.YtjlocpdfcanlhaaGreat
open Go
def Q6 (b:cP):cP×Bool:=((IH b).1,(IH b).2.2)
def abv (h:ah) (m n:Int):Int:=if eJ h=true/\0<=m/\m<h.I.length then(IH (fk h m)).2.1 else n
def anF (h:ah) (m:Int):ah×Int×Bool:=((qZ h m (Q6 (fk h m))).1,abv h m (-1),(qZ h m (Q6 (fk h m))).2)
end Go.Proofs.YtjlocpdfcanlhaaGreat
namespace Go.Proofs.YtjlocpdfcanlhaaGreat
open Go
set_option linter.unusedVariables false
set_option linter.unusedSimpArgs false
def nO (k:bS) (inner:List aR) (page:Int):bS:=(gy inner page).foldl ke k
def qd (t:List bS) (g:List ax) (page:Int):Nat->List bS
  |0=>t
  |k+1=>(qd t g page k).set k (nO (el t k) (el g k).live page)
theorem Gw (t:List bS) (g:List ax) (page:Int) (k:Nat):(qd t g page k).length=t.length:=by
  induction k with
  |zero=>rfl
  |succ k gj=>rw [qd,List.length_set,gj]
theorem Wh (t:List bS) (g:List ax) (page:Int) {k j:Nat} (h:k<=j):el (qd t g page k) j=el t j:=by
  induction k with
  |zero=>rfl
  |succ k gj=>
    rw [qd]
    have e:=gj (by omega)
    unfold el at e ⊢
    rw [List.getD_eq_getElem?_getD,List.getElem?_set_ne (by omega),←List.getD_eq_getElem?_getD]
    exact e
def nR (e:aH) (host:Int):Bool:=e.host==host
theorem UY {e:aH} {host:Int} (h:¬e.host=host):nR e host=false:=by simp [nR,h]
theorem UZ {e:aH} {host:Int} (h:e.host=host):nR e host=true:=by simp [nR,h]
def g6 (b:List aH) (host:Int):List aH:=jE b fun e=>nR e host
def tk (b:List aH) (p:Int):List aH:=if p=-1 then b else g6 b p
theorem Eb {b:List aH} {p:Int} (h:p=-1):tk b p=b:=if_pos h
theorem Ec {b:List aH} {p:Int} (h:¬p=-1):tk b p=g6 b p:=if_neg h
def m7 (h:ah) (m page:Int) (s:aR):ah:=
  ⟨h.mem,h.I.set m.toNat {el h.I m.toNat with tables:=qd (el h.I m.toNat).tables (el h.I m.toNat).U page (el h.I m.toNat).U.length},tk h.buf s.page,tk h.ag s.page⟩
def gP (h:ah) (m page:Int) (s:aR):ah:=
  ⟨h.mem,h.I.set m.toNat {el h.I m.toNat with tables:=qd (el h.I m.toNat).tables (el h.I m.toNat).U page (el h.I m.toNat).U.length,outer:=(el h.I m.toNat).outer.set page.toNat s},
    tk h.buf (el (el h.I m.toNat).outer page.toNat).page,tk h.ag (el (el h.I m.toNat).outer page.toNat).page⟩
def kh (h:ah) (m:Int) (x:aO):ah:=⟨h.mem,h.I.set m.toNat x,h.buf,h.ag⟩
def fN (h:ah) (m page:Int):Bool:=x3 h m&&a3 page 0 7
theorem Lu {x:aO} (h:hS x=true):x.outer.length=8/\x.out.length=8/\x.aT.length=8/\x.tables.length=x.U.length:=by
  have h1:=(re h).1
  simp only [hS,ow,Bool.and_eq_true,decide_eq_true_eq] at h
  exact⟨h1,h.1.1.1.1.2,h.1.1.1.2,h.1.1.1.1.1.1.2⟩
theorem px {h:ah} {m page:Int} (e:fN h m page=true):(0<=m/\m<h.I.length)/\(0<=page/\page<=7)/\(el h.I m.toNat).outer.length=8/\(el h.I m.toNat).out.length=8/\(el h.I m.toNat).aT.length=8/\(el h.I m.toNat).tables.length=(el h.I m.toNat).U.length:=by
  simp only [fN,Bool.and_eq_true] at e
  have h1:=Fe e.1
  exact⟨h1.2,cV e.2,Lu (wb h1.1 (by omega))⟩
theorem aev {h:ah} {m page:Int} (e:fN h m page=true):(el (el h.I m.toNat).outer page.toNat)=⟨-1,0⟩\/(0<=(el (el h.I m.toNat).outer page.toNat).page/\(el (el h.I m.toNat).outer page.toNat).page<=11):=by
  have an:=px e
  simp only [fN,Bool.and_eq_true] at e
  have h1:=Fe e.1
  have aF:=CU (re (wb h1.1 (k:=m.toNat) (by omega))).2 (k:=page.toNat) (by omega)
  simp only [g8,Bool.or_eq_true,Bool.and_eq_true,decide_eq_true_eq] at aF
  rcases aF with aF|aF
  · exact .inl aF
  · exact .inr (cV aF.1.2)
def an4 (h:ah) (m page:Int):aR:=el (el h.I m.toNat).outer page.toNat
theorem aku {h:ah} {m page:Int} (e:fN h m page=true) (h1:(el (el h.I m.toNat).outer page.toNat).page=-1):el (el h.I m.toNat).outer page.toNat=⟨-1,0⟩:=by
  rcases aev e with an|an
  · exact an
  · omega
theorem Kt {Y h:ah} {m page:Int} {s:aR} (e:Y=m7 h m page s) (hm:m.toNat<h.I.length):Y.I.length=h.I.length/\(el Y.I m.toNat).outer.length=(el h.I m.toNat).outer.length/\(el Y.I m.toNat).out.length=(el h.I m.toNat).out.length/\(el Y.I m.toNat).aT.length=(el h.I m.toNat).aT.length/\(el Y.I m.toNat).U.length=(el h.I m.toNat).U.length/\(el Y.I m.toNat).tables.length=(el h.I m.toNat).tables.length:=by
  subst e
  unfold m7
  simp only [dW hm,List.length_set,Gw,and_self]
def anE (h:ah) (m page:Int):ah×Bool:=
  if fN h m page=true then
    (if(el (el h.I m.toNat).outer page.toNat).page=-1 then kh h m {el h.I m.toNat with aT:=(el h.I m.toNat).aT.set page.toNat false}
     else gP (kh h m {el h.I m.toNat with aT:=(el h.I m.toNat).aT.set page.toNat false}) m page ⟨(el (el h.I m.toNat).outer page.toNat).page,1⟩,true)
  else(h,false)
def iA (h:ah) (m page:Int):ah:=
  gP (kh h m {el h.I m.toNat with out:=(el h.I m.toNat).out.set page.toNat (hn h.mem (el (el h.I m.toNat).outer page.toNat).page)}) m page ⟨-1,0⟩
def anZ (h:ah) (m page:Int):ah×Bool:=
  if fN h m page=true/\¬(el (el h.I m.toNat).outer page.toNat).page=-1 then(iA h m page,true) else(h,false)
end Go.Proofs.YtjlocpdfcanlhaaGreat
namespace Go.Proofs.YtjlocpdfcanlhaaGreat
open Go
set_option linter.unusedVariables false
set_option linter.unusedSimpArgs false
def oY (p:Int) (l:List aR):Nat:=(l.filter fun s=>decide (s.page=p)).length
def oP (p:Int) (ms:List aO):Nat:=(ms.map fun x=>oY p x.outer).sum
def one (c:Prop) [Decidable c]:Nat:=if c then 1 else 0
theorem wZ (p:Int) (s:aR) (r:List aR):oY p (s::r)=one (s.page=p)+oY p r:=by
  unfold oY one
  by_cases h:s.page=p
  · rw [List.filter_cons_of_pos (by simpa using h),List.length_cons,if_pos h];omega
  · rw [List.filter_cons_of_neg (by simpa using h),if_neg h];omega
theorem wJ (p:Int) (x:aO) (r:List aO):oP p (x::r)=oY p x.outer+oP p r:=by simp [oP]
theorem ace (l:List aR):l.foldl oa none=none:=by
  induction l with
  |nil=>rfl
  |cons s r gj=>rw [List.foldl_cons];exact gj
theorem Rp (l:List aO):l.foldl pQ none=none:=by
  induction l with
  |nil=>rfl
  |cons s r gj=>rw [List.foldl_cons];exact gj
theorem NR {p:Int} (bC:0<=p):∀(l:List aR) {u v:List Bool},p.toNat<u.length->l.foldl oa (some u)=some v->v.length=u.length/\oY p l+one (el u p.toNat=true)=one (el v p.toNat=true)
  |
    [],u,v,hu,h=>by cases h;exact⟨rfl,by simp [oY]⟩
  |s::r,u,v,hu,h=>by
    rw [List.foldl_cons] at h
    rw [wZ]
    by_cases h1:s.page<0
    · rw [CQ h1] at h
      obtain⟨cu,cB⟩:=NR bC r hu h
      refine⟨cu,?_⟩
      rw [show one (s.page=p)=0 by unfold one;rw [if_neg (by omega)]]
      omega
    · cases an:el u s.page.toNat with
      |
        true=>rw [NV h1 an,ace] at h;cases h
      |false=>
        rw [sW h1 an] at h
        obtain⟨cu,cB⟩:=NR bC r (by rw [List.length_set];exact hu) h
        rw [List.length_set] at cu
        refine⟨cu,?_⟩
        by_cases aF:s.page=p
        · subst aF
          rw [dW hu] at cB
          rw [an]
          simp only [one] at cB ⊢
          simp at cB ⊢
          omega
        · rw [show el (u.set s.page.toNat true) p.toNat=el u p.toNat from u_ (by omega)] at cB
          rw [show one (s.page=p)=0 by unfold one;rw [if_neg aF]]
          omega
theorem Ul {p:Int} (bC:0<=p):∀(l:List aO) {u v:List Bool},p.toNat<u.length->l.foldl pQ (some u)=some v->v.length=u.length/\oP p l+one (el u p.toNat=true)=one (el v p.toNat=true)
  |
    [],u,v,hu,h=>by cases h;exact⟨rfl,by simp [oP]⟩
  |x::r,u,v,hu,h=>by
    rw [List.foldl_cons] at h
    rw [wJ]
    cases hm:hS x with
    |false=>rw [NT hm,Rp] at h;cases h
    |true=>
      rw [CP hm] at h
      cases an:x.outer.foldl oa (some u) with
      |none=>rw [an,Rp] at h;cases h
      |some aqU=>
        rw [an] at h
        obtain⟨cu,cB⟩:=NR bC x.outer hu an
        obtain⟨fo,p8⟩:=Ul bC r (by omega) h
        exact⟨by omega,by omega⟩
theorem aiP {h:ah} (e:eJ h=true) {p:Int} (bC:0<=p/\p<=11):oP p h.I<=1:=by
  simp only [eJ,Bool.and_eq_true,tl] at e
  obtain⟨v,b2⟩:=Option.isSome_iff_exists.mp e.2
  obtain⟨_,p8⟩:=Ul bC.1 h.I (by rw [List.length_replicate];omega) b2
  have:one (el v p.toNat=true)<=1:=by unfold one;split<;>omega
  omega
theorem V7 (p:Int) (s:aR):∀(l:List aR) (k:Nat),k<l.length->oY p (l.set k s)+one ((el l k).page=p)=oY p l+one (s.page=p)
  |
    [],k,h=>by simp at h
  |x::r,0,h=>by rw [List.set_cons_zero,wZ,wZ,show el (x::r) 0=x from rfl];omega
  |x::r,k+1,h=>by
    have:=V7 p s r k (by simpa using h)
    rw [List.set_cons_succ,wZ,wZ,show el (x::r) (k+1)=el r k by simp [el]];omega
theorem U7 (p:Int) (y:aO):∀(l:List aO) (k:Nat),k<l.length->oP p (l.set k y)+oY p (el l k).outer=oP p l+oY p y.outer
  |
    [],k,h=>by simp at h
  |x::r,0,h=>by rw [List.set_cons_zero,wJ,wJ,show el (x::r) 0=x from rfl];omega
  |x::r,k+1,h=>by
    have:=U7 p y r k (by simpa using h)
    rw [List.set_cons_succ,wJ,wJ,show el (x::r) (k+1)=el r k by simp [el]];omega
theorem V6 {p:Int}:∀{l:List aR} {k:Nat},k<l.length->(el l k).page=p->1<=oY p l
  |
    [],k,h,_=>by simp at h
  |x::r,0,_,e=>by rw [wZ,show one (x.page=p)=1 from if_pos e];omega
  |x::r,k+1,h,e=>by
    have:=V6 (l:=r) (k:=k) (by simpa using h) (by simpa [el] using e)
    rw [wZ];omega
theorem U6 {p:Int}:∀{l:List aO} {k:Nat},k<l.length->oY p (el l k).outer<=oP p l
  |
    [],k,h=>by simp at h
  |x::r,0,_=>by rw [wJ,show el (x::r) 0=x from rfl];omega
  |x::r,k+1,h=>by
    have:=U6 (p:=p) (l:=r) (k:=k) (by simpa using h)
    rw [wJ,show el (x::r) (k+1)=el r k by simp [el]];omega
theorem U5 {l:List aR} {page:Int} {k:Nat} (h:¬j2 l page k<0):j2 l page k<l.length/\(el l (j2 l page k).toNat).page=page:=by
  by_cases hk:k<l.length
  · by_cases e:(el l k).page=page
    · rw [Mu hk e];exact⟨by omega,by simpa using e⟩
    · rw [Mv hk e] at h ⊢
      exact U5 h
  · rw [Mt (by omega)] at h;omega
termination_by l.length-k
theorem U2 {ms:List aO} {page:Int} {i:Nat} (h:¬(iz ms page i).1<0):(iz ms page i).1<ms.length/\0<=(iz ms page i).2/\(iz ms page i).2<(el ms (iz ms page i).1.toNat).outer.length/\(el (el ms (iz ms page i).1.toNat).outer (iz ms page i).2.toNat).page=page:=by
  by_cases hk:i<ms.length
  · by_cases e:j2 (el ms i).outer page 0<0
    · have cB:iz ms page i=iz ms page (i+1):=by rw [iz,if_pos hk,if_pos e]
      rw [cB] at h ⊢
      exact U2 h
    · have cB:iz ms page i=((i:Int),j2 (el ms i).outer page 0):=by rw [iz,if_pos hk,if_neg e]
      rw [cB]
      have h1:=U5 e
      exact⟨by show(i:Int)<_;omega,by show 0<=j2 _ _ _;omega,h1.1,h1.2⟩
  · rw [Ms (by omega)] at h;exact absurd (show(-1:Int)<0 by decide) h
termination_by ms.length-i
theorem U9 {h:ah} {p:Int} (e:¬(ea h p).1<0):(0<=(ea h p).1/\(ea h p).1<h.I.length)/\(0<=(ea h p).2/\(ea h p).2<(el h.I (ea h p).1.toNat).outer.length)/\(el (el h.I (ea h p).1.toNat).outer (ea h p).2.toNat).page=p:=by
  by_cases h0:p<0
  · rw [My h0] at e;exact absurd (show(-1:Int)<0 by decide) e
  · rw [Mz h0] at e ⊢
    have h1:=U2 e
    exact⟨⟨by omega,h1.1⟩,⟨h1.2.1,h1.2.2.1⟩,h1.2.2.2⟩
theorem aiQ {h:ah} {p:Int} (e:oP p h.I=0):(ea h p).1<0:=by
  by_cases h0:(ea h p).1<0
  · exact h0
  · have h1:=U9 h0
    have an:=U6 (p:=p) (l:=h.I) (k:=(ea h p).1.toNat) (by omega)
    have aF:=V6 (p:=p) (l:=(el h.I (ea h p).1.toNat).outer) (k:=(ea h p).2.toNat) (by omega) h1.2.2
    omega
theorem Ru {h:ah} {p:Nat} (bC:p<h.mem.length) (e:(ea h p).1<0):0<(en h).length:=by
  have:(p:Int)∈en h:=by
    unfold en lO
    exact List.mem_map.mpr ⟨p,List.mem_filter.mpr ⟨List.mem_range.mpr bC,by simpa using e⟩,rfl⟩
  exact List.length_pos_of_mem this
theorem acf {h:ah} (e:¬0<(en h).length) {p:Nat} (bC:p<h.mem.length):¬(ea h p).1<0:=fun h1=>e (Ru bC h1)
def lens (x:aO):Nat×Nat×Nat×Nat×Nat×Nat:=(x.outer.length,x.out.length,x.aT.length,x.U.length,x.tables.length,x.outs.length)
theorem NP {xs:List aO} {k:Nat} {y:aO} (h:lens y=lens (el xs k)) (j:Nat):lens (el (xs.set k y) j)=lens (el xs j):=by
  by_cases hk:k<xs.length
  · by_cases bZ:k=j
    · subst bZ;rw [dW hk];exact h
    · rw [u_ (fun e=>bZ e.symm)]
  · rw [List.set_eq_of_length_le (by omega)]
theorem wo {x y:aO} (h:lens x=lens y):x.outer.length=y.outer.length/\x.out.length=y.out.length/\x.aT.length=y.aT.length/\x.U.length=y.U.length/\x.tables.length=y.tables.length/\x.outs.length=y.outs.length:=by
  simp only [lens,Prod.mk.injEq] at h;exact h
theorem Gq (h:ah) (m page:Int) (s:aR) (j:Nat):lens (el (gP h m page s).I j)=lens (el h.I j):=by
  unfold gP
  apply NP
  simp only [lens,Gw,List.length_set]
theorem zj {h:ah} {m:Int} {x:aO} (e:lens x=lens (el h.I m.toNat)) (j:Nat):lens (el (kh h m x).I j)=lens (el h.I j):=NP e j
theorem V4 (h:ah) (a b:Int) (j:Nat):lens (el (iA h a b).I j)=lens (el h.I j):=by
  unfold iA
  rw [Gq,zj]
  simp only [lens,List.length_set]
theorem V3 (h:ah) (a b:Int):(iA h a b).I.length=h.I.length:=by simp [iA,gP,kh]
theorem akr {l A:List aO} {k:Nat} {y:aO} (h:A=l.set k y) (hk:k<l.length):A=l.set k (el A k):=by subst h;rw [dW hk]
theorem akq {h:ah} {a b p:Int} (ay:a.toNat<h.I.length) (hb:b.toNat<(el h.I a.toNat).outer.length) (bC:0<=p) (e:(el (el h.I a.toNat).outer b.toNat).page=p):oP p (iA h a b).I+1=oP p h.I:=by
  have cu:(iA h a b).I=h.I.set a.toNat (el (iA h a b).I a.toNat):=by
    have iy:(iA h a b).I=_:=List.set_set _
    exact akr iy ay
  have cB:(el (iA h a b).I a.toNat).outer=(el h.I a.toNat).outer.set b.toNat ⟨-1,0⟩:=by
    unfold iA gP kh
    simp only [dW ay,List.set_set]
  have h1:=U7 p (el (iA h a b).I a.toNat) h.I a.toNat ay
  have an:=V7 p ⟨-1,0⟩ (el h.I a.toNat).outer b.toNat hb
  rw [←cu,cB] at h1
  rw [show one ((el (el h.I a.toNat).outer b.toNat).page=p)=1 from if_pos e,show one ((-1:Int)=p)=0 from if_neg (by omega)] at an
  omega
theorem NO {h:ah} (e:eJ h=true) (bc:¬0<(en h).length):(0<=(ea h 0).1/\(ea h 0).1<h.I.length)/\(0<=(ea h 0).2/\(ea h 0).2<=7)/\((el h.I (ea h 0).1.toNat).outer.length=8/\(el h.I (ea h 0).1.toNat).out.length=8/\(el h.I (ea h 0).1.toNat).aT.length=8/\(el h.I (ea h 0).1.toNat).tables.length=(el h.I (ea h 0).1.toNat).U.length)/\(el (el h.I (ea h 0).1.toNat).outer (ea h 0).2.toNat).page=0:=by
  have h1:=U9 (acf bc (p:=0) (by have:=sq e;omega))
  simp only [Int.ofNat_zero,show((0:Nat):Int)=0 from rfl] at h1
  have an:=Lu (wb e (k:=(ea h 0).1.toNat) (by omega))
  exact⟨h1.1,⟨h1.2.1.1,by omega⟩,an,h1.2.2⟩
def x5 (h:ah):ah:=iA h (ea h 0).1 (ea h 0).2
theorem V2 {h:ah} (e:eJ h=true) (bc:¬0<(en h).length):0<(en (x5 h)).length:=by
  have h1:=NO e bc
  have an:=akq (p:=0) (by omega) (by omega) (Int.le_refl 0) h1.2.2.2
  have aF:=aiP e (p:=0) ⟨by decide,by decide⟩
  refine Ru (p:=0) ?_ (aiQ ?_)
  · show 0<h.mem.length
    have:=sq e;omega
  · show oP 0 (iA h (ea h 0).1 (ea h 0).2).I=0
    omega
theorem V1 {Y h:ah} (hY:Y=x5 h) (e:eJ h=true) (bc:¬0<(en h).length) (m:Nat):0<(en Y).length/\Y.I.length=h.I.length/\(el Y.I m).outer.length=(el h.I m).outer.length/\(el Y.I m).out.length=(el h.I m).out.length/\(el Y.I m).aT.length=(el h.I m).aT.length/\(el Y.I m).U.length=(el h.I m).U.length/\(el Y.I m).tables.length=(el h.I m).tables.length:=by
  subst hY
  have h1:=wo (V4 h (ea h 0).1 (ea h 0).2 m)
  exact⟨V2 e bc,V3 _ _ _,h1.1,h1.2.1,h1.2.2.1,h1.2.2.2.1,h1.2.2.2.2.1⟩
def jv (m:List (List Int)) (p:Int) (c:List Int):List (List Int):=if(0<=p/\p<m.length)/\ho c=true then m.set p.toNat c else m
def kg (h:ah):ah:=if 0<(en h).length then h else x5 h
def pj (h:ah) (m page:Int):ah:=
  gP ⟨jv h.mem (el (en h) 0) (el (el h.I m.toNat).out page.toNat),h.I.set m.toNat {el h.I m.toNat with out:=(el h.I m.toNat).out.set page.toNat []},h.buf,h.ag⟩ m page ⟨el (en h) 0,3⟩
def lj (h:ah) (m page:Int):ah:=pj (kg h) m page
def anY (h:ah) (m page:Int):ah×Bool:=
  if fN h m page=true/\(el (el h.I m.toNat).outer page.toNat).page=-1 then(lj h m page,true) else(h,false)
theorem aeu {h:ah} {m page:Int} (e:fN h m page=true):0<=(el (el h.I m.toNat).outer page.toNat).bg/\(el (el h.I m.toNat).outer page.toNat).bg<=3:=by
  have an:=px e
  simp only [fN,Bool.and_eq_true] at e
  have h1:=Fe e.1
  have aF:=CU (re (wb h1.1 (k:=m.toNat) (by omega))).2 (k:=page.toNat) (by omega)
  simp only [g8,Bool.or_eq_true,Bool.and_eq_true,decide_eq_true_eq] at aF
  rcases aF with aF|aF
  · rw [aF];exact⟨by decide,by decide⟩
  · have:=cV aF.2;omega
theorem sg {h:ah} {m page:Int} (e:fN h m page=true):eJ h=true:=by
  simp only [fN,Bool.and_eq_true] at e
  exact(Fe e.1).1
def hB (h:ah) (m page:Int):ah:=if(el (el h.I m.toNat).outer page.toNat).page=-1 then lj h m page else h
def q0 (h:ah) (m page:Int):ah:=
  if fj (el (el h.I m.toNat).outer page.toNat).bg 2=true then kh h m {el h.I m.toNat with aT:=(el h.I m.toNat).aT.set page.toNat true}
  else gP (kh h m {el h.I m.toNat with aT:=(el h.I m.toNat).aT.set page.toNat true}) m page ⟨(el (el h.I m.toNat).outer page.toNat).page,3⟩
def gp (h:ah) (m page need:Int):ah:=if fj need 2=true then q0 (hB h m page) m page else hB h m page
def anW (h:ah) (m page need:Int):ah×Bool:=if fN h m page=true/\a3 need 1 3=true then(gp h m page need,true) else(h,false)
theorem QV {r:Int} (h:0<=r/\r<=3):fj r 2=true↔ ¬jK r 2=0:=by
  have:r=0\/r=1\/r=2\/r=3:=by omega
  rcases this with e|e|e|e<;>subst e<;>decide
theorem Nv {h:ah} {m page:Int} (e:fN h m page=true):0<(en (kg h)).length/\(kg h).I.length=h.I.length/\lens (el (kg h).I m.toNat)=lens (el h.I m.toNat):=by
  unfold kg
  split
  · rename_i bc;exact⟨bc,rfl,rfl⟩
  · rename_i bc;exact⟨V2 (sg e) bc,V3 _ _ _,V4 _ _ _ _⟩
theorem Gf {h Y:ah} (e:Y=iA h (ea h 0).1 (ea h 0).2) (cY:¬0<(en h).length):Y=kg h:=by unfold kg;rw [if_neg cY];exact e
theorem Ge {h:ah} (bC:0<(en h).length):h=kg h:=by unfold kg;rw [if_pos bC]
theorem VV {h Y:ah} {m page:Int} (hY:Y=kg h) (e:fN h m page=true):0<(en Y).length/\Y.I.length=h.I.length/\(el Y.I m.toNat).outer.length=8/\(el Y.I m.toNat).out.length=8/\(el Y.I m.toNat).aT.length=8/\(el Y.I m.toNat).tables.length=(el Y.I m.toNat).U.length:=by
  subst hY
  have h1:=px e
  have an:=Nv e
  have aF:=wo an.2.2
  exact⟨an.1,an.2.1,by omega,by omega,by omega,by omega⟩
theorem ai_ {h:ah} {m page:Int} (hm:m.toNat<h.I.length) (bC:page.toNat<(el h.I m.toNat).outer.length):el (el (pj h m page).I m.toNat).outer page.toNat=⟨el (en h) 0,3⟩:=by
  unfold pj gP
  simp only [dW hm,dW bC,List.set_set]
theorem Vv (h:ah) (m page:Int) (j:Nat):lens (el (pj h m page).I j)=lens (el h.I j):=by
  unfold pj
  rw [Gq]
  apply NP
  simp only [lens,List.length_set]
theorem IL {Y h:ah} {m page:Int} (hY:Y=lj h m page) (e:fN h m page=true):(Y.I.length=h.I.length/\(el Y.I m.toNat).outer.length=8/\(el Y.I m.toNat).out.length=8/\(el Y.I m.toNat).aT.length=8/\(el Y.I m.toNat).tables.length=(el Y.I m.toNat).U.length)/\(el (el Y.I m.toNat).outer page.toNat).bg=3:=by
  subst hY
  have h1:=px e
  have an:=Nv e
  have aF:=wo an.2.2
  have b1:=wo (Vv (kg h) m page m.toNat)
  have bm:(pj (kg h) m page).I.length=(kg h).I.length:=by simp [pj,gP]
  have cS:=ai_ (h:=kg h) (m:=m) (page:=page) (by omega) (by omega)
  unfold lj
  rw [cS]
  exact⟨⟨by omega,by omega,by omega,by omega,by omega⟩,rfl⟩
theorem BD {Y h:ah} {m page:Int} (hY:Y=hB h m page) (e:fN h m page=true):(Y.I.length=h.I.length/\(el Y.I m.toNat).outer.length=8/\(el Y.I m.toNat).out.length=8/\(el Y.I m.toNat).aT.length=8/\(el Y.I m.toNat).tables.length=(el Y.I m.toNat).U.length)/\0<=(el (el Y.I m.toNat).outer page.toNat).bg/\(el (el Y.I m.toNat).outer page.toNat).bg<=3:=by
  unfold hB at hY
  split at hY
  · have h1:=IL hY e;exact⟨h1.1,by omega,by omega⟩
  · subst hY
    have h1:=px e
    exact⟨⟨rfl,h1.2.2.1,h1.2.2.2.1,h1.2.2.2.2.1,h1.2.2.2.2.2⟩,aeu e⟩
theorem Fg {h:ah} {m page:Int} (e:¬(el (el h.I m.toNat).outer page.toNat).page=-1):hB h m page=h:=if_neg e
theorem Fi {h Y:ah} {m page:Int} (hY:Y=lj h m page) (e:(el (el h.I m.toNat).outer page.toNat).page=-1):hB h m page=Y:=by
  unfold hB;rw [if_pos e,hY]
theorem tP {h Y:ah} {m page:Int} (hY:Y=lj h m page) (e:el (el h.I m.toNat).outer page.toNat=⟨-1,0⟩):Y=hB h m page:=by rw [hY];exact(if_pos (by rw [e])).symm
theorem tO {h:ah} {m page:Int} (p:fN h m page=true) (e:¬el (el h.I m.toNat).outer page.toNat=⟨-1,0⟩):hB h m page=h:=if_neg fun aF=>e (aku p aF)
theorem Fh {h Y:ah} {m page:Int} (p:fN h m page=true) (h1:hB h m page=Y):m.toNat<Y.I.length:=by
  have an:=px p
  have aF:=BD h1.symm p
  omega
theorem Lr {h Y:ah} {m page need:Int} (p:fN h m page=true) (h1:hB h m page=Y) (an:fj need 2=false):gp h m page need=Y:=by
  unfold gp;rw [if_neg (by rw [an];exact fun e=>by cases e),h1]
theorem Lt {h Y:ah} {m page need:Int} {X:List aO} (p:fN h m page=true) (h1:hB h m page=Y) (an:fj need 2=true) (fT:X=Y.I.set m.toNat {el Y.I m.toNat with aT:=(el Y.I m.toNat).aT.set page.toNat true})
    (aF:fj (el (el X m.toNat).outer page.toNat).bg 2=true):gp h m page need=⟨Y.mem,X,Y.buf,Y.ag⟩:=by
  subst fT
  rw [dW (Fh p h1)] at aF
  unfold gp q0
  rw [if_pos an,h1,if_pos aF]
  rfl
theorem Ls {h Y:ah} {m page need:Int} {X:List aO} (p:fN h m page=true) (h1:hB h m page=Y) (an:fj need 2=true) (fT:X=Y.I.set m.toNat {el Y.I m.toNat with aT:=(el Y.I m.toNat).aT.set page.toNat true})
    (aF:fj (el (el X m.toNat).outer page.toNat).bg 2=false):gp h m page need=gP ⟨Y.mem,X,Y.buf,Y.ag⟩ m page ⟨(el (el X m.toNat).outer page.toNat).page,3⟩:=by
  subst fT
  rw [dW (Fh p h1)] at aF ⊢
  unfold gp q0
  rw [if_pos an,h1,if_neg (by rw [aF];exact fun e=>by cases e)]
  rfl
theorem agR {h Y Z:ah} {m page need:Int} {X mU:List aO} {s:aR} (p:fN h m page=true) (h1:hB h m page=Y) (an:fj need 2=true) (fT:X=Y.I.set m.toNat {el Y.I m.toNat with aT:=(el Y.I m.toNat).aT.set page.toNat true})
    (aF:fj (el (el X m.toNat).outer page.toNat).bg 2=false) (ys:mU=X.set m.toNat {el X m.toNat with outer:=(el X m.toNat).outer.set page.toNat ⟨(el (el X m.toNat).outer page.toNat).page,3⟩}) (hs:s=el (el X m.toNat).outer page.toNat) (yt:Z=m7 ⟨Y.mem,mU,Y.buf,Y.ag⟩ m page s):gp h m page need=Z:=by
  rw [Ls p h1 an fT aF,yt,ys,hs]
  have hl:m.toNat<X.length:=by rw [fT,List.length_set];exact Fh p h1
  unfold gP m7
  simp only [dW hl,List.set_set]
theorem D1 {r:Int} (h:0<=r/\r<=3) (e:jK r 2=0):fj r 2=false:=by
  cases h1:fj r 2 with
  |false=>rfl
  |true=>exact absurd e ((QV h).1 h1)
theorem xW {r:Int} (h:0<=r/\r<=3) (e:¬jK r 2=0):fj r 2=true:=(QV h).2 e
theorem Fj {h Y:ah} {m page:Int} {X:List aO} (p:fN h m page=true) (h1:hB h m page=Y) (fT:X=Y.I.set m.toNat {el Y.I m.toNat with aT:=(el Y.I m.toNat).aT.set page.toNat true}):0<=(el (el X m.toNat).outer page.toNat).bg/\(el (el X m.toNat).outer page.toNat).bg<=3:=by
  rw [fT,dW (Fh p h1)]
  exact(BD h1.symm p).2
theorem agS {h Y:ah} {m page need:Int} (hY:Y=gp h m page need) (p:fN h m page=true):(Y.I.length=h.I.length/\(el Y.I m.toNat).outer.length=8):=by
  have h1:=BD (rfl:hB h m page=hB h m page) p
  have an:(q0 (hB h m page) m page).I.length=(hB h m page).I.length/\lens (el (q0 (hB h m page) m page).I m.toNat)=lens (el (hB h m page).I m.toNat):=by
    unfold q0
    split
    · exact⟨by simp [kh],zj (by simp only [lens,List.length_set]) _⟩
    · exact⟨by simp [kh,gP],by rw [Gq,zj (by simp only [lens,List.length_set])]⟩
  have aF:=wo an.2
  subst hY
  unfold gp
  split
  · omega
  · exact⟨h1.1.1,h1.1.2.1⟩
def anA (b:cP) (page cell v:Int):cP×Bool:=
  if jC b=true/\(0<=page/\page<8)/\(0<=cell/\cell<4)/\a3 v 0 99=true then(⟨gh b.mem page cell v,b.U,b.outs,b.aC⟩,true) else(b,false)
def abS (h:ah) (m page cell v:Int):Bool:=fN h m page&&a3 cell 0 3&&a3 v 0 99
def anL (h:ah) (m page cell v:Int):ah×Bool:=
  if abS h m page cell v=true then(⟨gh (gp h m page 2).mem (el (el (gp h m page 2).I m.toNat).outer page.toNat).page cell v,(gp h m page 2).I,(gp h m page 2).buf,(gp h m page 2).ag⟩,true) else(h,false)
end Go.Proofs.YtjlocpdfcanlhaaGreat
namespace Go.Proofs.YtjlocpdfcanlhaaGreat
open Go
set_option linter.unusedVariables false
set_option linter.unusedSimpArgs false
def dt (b:List aH) (tag page:Int):aH×Bool:=
  match b.find? (fun e=>ic e tag page) with
  |some e=>(e,true)
  |none=>(⟨0,0,0,0⟩,false)
theorem Rg {b:List aH} {tag page:Int} {k:Nat} (hk:b.length<=k) (h:(b.take k).find? (fun e=>ic e tag page)=none):dt b tag page=(⟨0,0,0,0⟩,false):=by
  rw [ff hk] at h
  unfold dt;rw [h]
theorem Rh {b:List aH} {tag page:Int} {k:Nat} (hk:k<b.length) (h:(b.take k).find? (fun e=>ic e tag page)=none) (h1:ic (el b k) tag page=true):dt b tag page=(el b k,true):=by
  have e:b.find? (fun e=>ic e tag page)=some (el b k):=by
    have iy:b=b.take k++el b k::b.drop (k+1):=by
      rw [p_ hk,←List.drop_eq_getElem_cons hk,List.take_append_drop]
    rw [iy,List.find?_append,h,Option.none_or,List.find?_cons,←iy,h1]
  unfold dt;rw [e]
theorem tq {b:List aH} {tag page:Int} {k:Nat} (hk:k<b.length) (h:(b.take k).find? (fun e=>ic e tag page)=none) (h1:ic (el b k) tag page=false):(b.take (k+1)).find? (fun e=>ic e tag page)=none:=by
  rw [jb hk,List.find?_append,h,Option.none_or,List.find?_cons,h1];rfl
theorem Rf {K:Nat} {F:au} {w:World} {b:List aH} {p:aD aH} (h:GT.rd K F w b p) (tag page:Int):fi (dt b tag page).1:=by
  unfold dt
  split
  · rename_i e he
    obtain⟨i,hi,cu⟩:=List.getElem_of_mem (List.mem_of_find?_eq_some he)
    have an:=ae.el h i hi
    rw [p_ hi,cu] at an
    exact an
  · exact⟨⟨by decide,by decide⟩,⟨by decide,by decide⟩,⟨by decide,by decide⟩,⟨by decide,by decide⟩⟩
def dF (b:List aH) (e:aH):List aH:=(cM b e.tag e.page++[e]).drop ((cM b e.tag e.page++[e]).length-6)
def aV (k:bS) (page:Int):aR×Bool:=
  if((0<=page/\page<k.known.length)/\page<k.aZ.length)/\el k.known page.toNat=true then(el k.aZ page.toNat,true) else(⟨-1,0⟩,false)
theorem Dl {K:Nat} {F:au} {w:World} {k:bS} {p:fx} (h:GT.rd K F w k p) (page:Int):ed (aV k page).1:=by
  unfold aV
  split
  · exact ae.el (ey.aZ (d:=k) h) _ (by omega)
  · exact⟨⟨by decide,by decide⟩,⟨by decide,by decide⟩⟩
def lh (a b:Int):Int:=if a3 a 0 3=true/\a3 b 0 3=true then jK a b else 0
theorem Ye (a b:Int):0<=lh a b/\lh a b<=3:=by
  unfold lh
  split
  · rename_i h
    have h1:=cV h.1
    have an:=cV h.2
    have cu:a=0\/a=1\/a=2\/a=3:=by omega
    have cB:b=0\/b=1\/b=2\/b=3:=by omega
    rcases cu with e|e|e|e<;>rcases cB with f|f|f|f<;>subst e<;>subst f<;>decide
  · omega
theorem Yf (a b:Int):a_ (lh a b):=by
  have:=Ye a b;exact⟨by omega,by omega⟩
def hQ (s:aR) (t:List aR):aR:=
  if s.page=-1\/(eV t s.page).page=-1\/lh s.bg (eV t s.page).bg=0 then⟨-1,0⟩ else⟨(eV t s.page).page,lh s.bg (eV t s.page).bg⟩
theorem Qs {K:Nat} {F:au} {w:World} {t:List aR} {p:aD aR} (h:GT.rd K F w t p) (s:aR):ed (hQ s t):=by
  unfold hQ
  split
  · exact⟨⟨by decide,by decide⟩,⟨by decide,by decide⟩⟩
  · exact⟨(akt h s.page).1,Yf _ _⟩
def lk (k:bS) (inner outer:List aR) (page:Int):bS:=
  if((0<=page/\page<k.known.length)/\page<k.aZ.length)/\page<inner.length then⟨k.known.set page.toNat true,k.aZ.set page.toNat (hQ (el inner page.toNat) outer)⟩ else k
theorem Rt {α β:Type} [GT α] {f:β->α->β} {y:α}:∀{xs:List α} {k:Nat},k<xs.length->(∀u,f u y=f u (el xs k))->∀z,(xs.set k y).foldl f z=xs.foldl f z
  |
    [],k,h,_,_=>by simp at h
  |x::r,0,_,e,z=>by rw [List.set_cons_zero,List.foldl_cons,List.foldl_cons,e z];rfl
  |x::r,k+1,h,e,z=>by
    rw [List.set_cons_succ,List.foldl_cons,List.foldl_cons]
    exact Rt (by simpa using h) (fun u=>by have:=e u;rwa [show el (x::r) (k+1)=el r k by simp [el]] at this) _
theorem agT {x:aO} {d:List Bool} (h:d.length=x.aT.length):hS {x with aT:=d}=hS x:=by
  have h1:ow {x with aT:=d}=ow x:=by unfold ow;simp only [h]
  have an:qY {x with aT:=d}=qY x:=rfl
  have aF:nS {x with aT:=d}=nS x:=rfl
  unfold hS
  rw [h1,an,aF]
def qX (h:ah) (m q:Int):ah:=kh h m {el h.I m.toNat with aT:=(el h.I m.toNat).aT.set q.toNat true}
theorem afg {h:ah} {m q:Int} (hm:m.toNat<h.I.length):eJ (qX h m q)=eJ h:=by
  have h1:qb (qX h m q)=qb h:=by
    unfold qb qX kh
    simp only [List.length_set]
  have an:tl (qX h m q)=tl h:=by
    unfold tl qX kh
    refine Rt hm (fun u=>?_) _
    unfold pQ
    rw [agT List.length_set]
  unfold eJ
  rw [h1,an]
theorem aet {h:ah} {m q p:Int} (e:fN h m p=true):fN (qX h m q) m p=true:=by
  have an:=px e
  have h1:(qX h m q).I.length=h.I.length:=List.length_set
  simp only [fN,x3,Bool.and_eq_true] at e ⊢
  rw [afg (by omega),h1]
  exact e
theorem wv {h:ah} {m:Int} (e:(aK h m).2=true):(0<=m/\m<h.I.length)/\(aK h m).1=el h.I m.toNat/\(aK h m).1.U.length=(el h.I m.toNat).U.length:=by
  unfold aK at e ⊢
  split at e
  · rename_i hm;rw [if_pos hm];exact⟨hm,rfl,rfl⟩
  · cases e
def vb (h:ah) (m g page need:Int):Int:=(cW (el (el h.I m.toNat).U g.toNat).live page need).1
theorem uy {h:ah} {m g page need:Int} (e:(cW (el (el h.I m.toNat).U g.toNat).live page need).2=true) (yF:eJ h=true:=by assumption) (hm:0<=m/\m<h.I.length:=by omega) (aJ:0<=g/\g<(el h.I m.toNat).U.length:=by omega):
    fN h m (cW (el (el h.I m.toNat).U g.toNat).live page need).1=true/\(0<=(cW (el (el h.I m.toNat).U g.toNat).live page need).1/\(cW (el (el h.I m.toNat).U g.toNat).live page need).1<=7)/\(el h.I m.toNat).outer.length=8/\(el h.I m.toNat).out.length=8/\(el h.I m.toNat).aT.length=8/\(el h.I m.toNat).tables.length=(el h.I m.toNat).U.length:=by
  have h0:=wb yF (k:=m.toNat) (by omega)
  have h1:kC (el (el h.I m.toNat).U g.toNat)=true:=by
    simp only [hS,Bool.and_eq_true] at h0
    exact s9 h0.1.2 (by omega)
  have an:gZ (el (el h.I m.toNat).U g.toNat).live 4 8=true:=by
    simp only [kC,Bool.and_eq_true] at h1
    exact h1.1.1.1.1.2
  have a9:0<=(cW (el (el h.I m.toNat).U g.toNat).live page need).1/\(cW (el (el h.I m.toNat).U g.toNat).live page need).1<=7:=by
    unfold cW at e ⊢
    split at e
    · cases e
    · rename_i cY
      rw [if_neg cY]
      simp only
      unfold eV at cY ⊢
      by_cases bC:0<=page/\page<((el (el h.I m.toNat).U g.toNat).live.length:Int)
      · rw [if_pos bC] at cY ⊢
        have aF:=CU an (k:=page.toNat) (by omega)
        simp only [g8,Bool.or_eq_true,Bool.and_eq_true,decide_eq_true_eq] at aF
        rcases aF with aF|aF
        · rw [aF] at cY;exact absurd (Or.inl rfl) cY
        · exact cV aF.1.2
      · rw [if_neg bC] at cY;exact absurd (Or.inl rfl) cY
  refine⟨?_,a9,Lu h0⟩
  simp only [fN,Bool.and_eq_true]
  refine⟨agk ⟨yF,hm⟩,?_⟩
  simp only [a3,Bool.and_eq_true,decide_eq_true_eq]
  exact a9
theorem GA {h:ah} {m g page need:Int} (e:(cW (el (aK h m).1.U g.toNat).live page need).2=true) (yF:eJ h=true:=by assumption) (hm:(aK h m).2=true:=by assumption) (aJ:0<=g/\g<(aK h m).1.U.length:=by omega):
    fN h m (cW (el (aK h m).1.U g.toNat).live page need).1=true/\(0<=(cW (el (aK h m).1.U g.toNat).live page need).1/\(cW (el (aK h m).1.U g.toNat).live page need).1<=7)/\(el h.I m.toNat).outer.length=8/\(el h.I m.toNat).out.length=8/\(el h.I m.toNat).aT.length=8/\(el h.I m.toNat).tables.length=(el h.I m.toNat).U.length:=by
  have h1:=wv hm
  rw [h1.2.1] at e aJ ⊢
  exact uy e yF h1.1 aJ
def tm (h:ah) (m g page need:Int):Bool:=
  eJ h&&decide (0<=m/\m<h.I.length)&&decide (0<=g/\g<(el h.I m.toNat).U.length)&&decide (need=1\/need=2)&&(cW (el (el h.I m.toNat).U g.toNat).live page need).2
def qa (h:ah) (io:Bool):List aH:=if io=true then h.ag else h.buf
def x4 (h:ah) (io:Bool) (e:aH):ah:=if io=true then⟨h.mem,h.I,h.buf,dF h.ag e⟩ else⟨h.mem,h.I,dF h.buf e,h.ag⟩
def Q9 (b:List aH) (tag page need:Int):Bool:=(dt b tag page).2&&fj (dt b tag page).1.bg need
def D8 (k:bS) (page need:Int):Bool:=((!(aV k page).2)||((aV k page).1.page== -1))||(!fj (aV k page).1.bg need)
def abF (k:bS) (m g page:Int):aH:=⟨bR m g,page,(aV k page).1.page,(aV k page).1.bg⟩
def abG (z:aO) (g page:Int):List bS:=z.tables.set g.toNat (lk (el z.tables g.toNat) (el z.U g.toNat).live z.outer page)
def D6 (h:ah) (m g page:Int):ah:=kh h m {el h.I m.toNat with tables:=abG (el h.I m.toNat) g page}
def r6 (h:ah) (m g page:Int) (io:Bool):ah×Int×Bool:=
  (x4 h io (abF (el (el h.I m.toNat).tables g.toNat) m g page),(aV (el (el h.I m.toNat).tables g.toNat) page).1.page,true)
def m8 (h:ah) (m g page need q:Int) (io:Bool):ah×Int×Bool:=
  if Q9 (qa h io) (bR m g) page need=true then(h,(dt (qa h io) (bR m g) page).1.host,true)
  else if D8 (el (el h.I m.toNat).tables g.toNat) page need=true then r6 (D6 (gp h m q need) m g page) m g page io
  else r6 h m g page io
def kd (h:ah) (m q need:Int):ah:=if need=2 then qX h m q else h
def cN (h:ah) (m g page need:Int) (io:Bool):ah×Int×Bool:=
  if tm h m g page need=true then m8 (kd h m (vb h m g page need) need) m g page need (vb h m g page need) io
  else(h,-1,false)
theorem Ff {h:ah} {m g page need:Int} {io:Bool} (e:tm h m g page need=false):cN h m g page need io=(h,-1,false):=by
  unfold cN;rw [if_neg (by rw [e];exact fun h=>by cases h)]
theorem agF {h:ah} {m g page need:Int} {io:Bool} (e:((((!eJ h)||(!(aK h m).2))||(!a3 g 0 (((aK h m).1.U.length:Int)-1)))||((need != 1)&&(need != 2)))=true):cN h m g page need io=(h,-1,false):=by
  apply Ff
  rw [Bool.eq_false_iff]
  intro h1
  simp only [tm,Bool.and_eq_true,decide_eq_true_eq] at h1
  obtain⟨⟨⟨⟨an,aF⟩,b1⟩,bm⟩,_⟩:=h1
  have cB:aK h m=(el h.I m.toNat,true):=by unfold aK;rw [if_pos aF]
  have fo:a3 g 0 (((el h.I m.toNat).U.length:Int)-1)=true:=by
    simp only [a3,Bool.and_eq_true,decide_eq_true_eq];omega
  rw [an,cB,fo] at e
  rcases bm with bm|bm<;>subst bm<;>simp at e
theorem agG {h:ah} {m g page need:Int} {io:Bool} (hm:(aK h m).2=true) (e:(cW (el (aK h m).1.U g.toNat).live page need).2=false):cN h m g page need io=(h,-1,false):=by
  apply Ff
  rw [(wv hm).2.1] at e
  unfold tm
  rw [e,Bool.and_false]
theorem agH {h:ah} {m g page need:Int} {io:Bool} (e:((((!eJ h)||(!a3 m 0 ((h.I.length:Int)-1)))||(!a3 g 0 (((el h.I m.toNat).U.length:Int)-1)))||((need != 1)&&(need != 2)))=true):cN h m g page need io=(h,-1,false):=by
  apply Ff
  rw [Bool.eq_false_iff]
  intro h1
  simp only [tm,Bool.and_eq_true,decide_eq_true_eq] at h1
  obtain⟨⟨⟨⟨an,aF⟩,b1⟩,bm⟩,_⟩:=h1
  have cB:a3 m 0 ((h.I.length:Int)-1)=true:=by
    simp only [a3,Bool.and_eq_true,decide_eq_true_eq];omega
  have fo:a3 g 0 (((el h.I m.toNat).U.length:Int)-1)=true:=by
    simp only [a3,Bool.and_eq_true,decide_eq_true_eq];omega
  rw [an,cB,fo] at e
  rcases bm with bm|bm<;>subst bm<;>simp at e
theorem agI {h:ah} {m g page need:Int} {io:Bool} (e:(cW (el (el h.I m.toNat).U g.toNat).live page need).2=false):cN h m g page need io=(h,-1,false):=by
  apply Ff
  unfold tm
  rw [e,Bool.and_false]
theorem Uc {h:ah} {m g page need:Int} {io:Bool} (h1:eJ h=true) (an:0<=m/\m<h.I.length) (aF:0<=g/\g<(el h.I m.toNat).U.length) (b1:need=1\/need=2) (bm:(cW (el (el h.I m.toNat).U g.toNat).live page need).2=true):
    cN h m g page need io=m8 (kd h m (cW (el (el h.I m.toNat).U g.toNat).live page need).1 need) m g page need (cW (el (el h.I m.toNat).U g.toNat).live page need).1 io:=by
  unfold cN
  rw [if_pos (by unfold tm;rw [h1,bm,decide_eq_true an,decide_eq_true aF,decide_eq_true b1];rfl)]
  rfl
theorem Lf {h Y:ah} {m g page need:Int} {io:Bool} (h1:eJ h=true) (an:(aK h m).2=true) (aF:0<=g/\g<(aK h m).1.U.length) (b1:need=1\/need=2) (bm:(cW (el (aK h m).1.U g.toNat).live page need).2=true) (gT:Y=kd h m (cW (el (aK h m).1.U g.toNat).live page need).1 need):
    cN h m g page need io=m8 Y m g page need (cW (el (aK h m).1.U g.toNat).live page need).1 io:=by
  subst gT
  have cS:=wv an
  rw [cS.2.1] at aF bm ⊢
  exact Uc h1 cS.1 aF b1 bm
theorem Lg {h:ah} {fb:List aO} {m g page need:Int} {io:Bool} (h1:eJ h=true) (an:0<=m/\m<h.I.length) (aF:0<=g/\g<(el h.I m.toNat).U.length) (b1:need=1\/need=2) (bm:(cW (el (el h.I m.toNat).U g.toNat).live page need).2=true) (gT:fb=(kd h m (cW (el (el h.I m.toNat).U g.toNat).live page need).1 need).I):
    cN h m g page need io=m8 ⟨h.mem,fb,h.buf,h.ag⟩ m g page need (cW (el (el h.I m.toNat).U g.toNat).live page need).1 io:=by
  rw [Uc h1 an aF b1 bm,gT]
  congr 1
  unfold kd
  split<;>rfl
theorem Is {h:ah} {X:List aO} {m q need:Int} (e:need=2) (fT:X=h.I.set m.toNat {el h.I m.toNat with aT:=(el h.I m.toNat).aT.set q.toNat true}):(⟨h.mem,X,h.buf,h.ag⟩:ah)=kd h m q need:=by
  unfold kd;rw [if_pos e,fT];rfl
theorem Ir {h:ah} {m q need:Int} (e:¬need=2):h=kd h m q need:=(if_neg e).symm
theorem DU {h:ah} {X:List aO} {m q need:Int} (e:need=2) (fT:X=h.I.set m.toNat {el h.I m.toNat with aT:=(el h.I m.toNat).aT.set q.toNat true}):X=(kd h m q need).I:=congrArg ah.I (Is e fT)
theorem Qx {h:ah} {m q need:Int} (e:¬need=2):h.I=(kd h m q need).I:=congrArg ah.I (Ir e)
theorem Ud {h:ah} {m g page need q:Int} {io:Bool} (e:((dt (qa h io) (bR m g) page).2&&fj (dt (qa h io) (bR m g) page).1.bg need)=true):m8 h m g page need q io=(h,(dt (qa h io) (bR m g) page).1.host,true):=by
  unfold m8;exact if_pos e
theorem Ug {h:ah} {m g page need q:Int} {io:Bool} (e:((dt (qa h io) (bR m g) page).2&&fj (dt (qa h io) (bR m g) page).1.bg need)=false):
    m8 h m g page need q io=if D8 (el (el h.I m.toNat).tables g.toNat) page need=true then r6 (D6 (gp h m q need) m g page) m g page io else r6 h m g page io:=by
  unfold m8;exact if_neg (fun h1=>by rw [show Q9 _ _ _ _=false from e] at h1;cases h1)
theorem Ue {h:ah} {m g page need q:Int} {io:Bool} (e:((dt (qa h io) (bR m g) page).2&&fj (dt (qa h io) (bR m g) page).1.bg need)=false)
    (cB:(((!(aV (el (el h.I m.toNat).tables g.toNat) page).2)||((aV (el (el h.I m.toNat).tables g.toNat) page).1.page== -1))||(!fj (aV (el (el h.I m.toNat).tables g.toNat) page).1.bg need))=false):m8 h m g page need q io=r6 h m g page io:=by
  rw [Ug e];exact if_neg (fun h1=>by rw [show D8 _ _ _=false from cB] at h1;cases h1)
theorem Uf {h Z:ah} {X:List aO} {m g page need q:Int} {io:Bool} (e:((dt (qa h io) (bR m g) page).2&&fj (dt (qa h io) (bR m g) page).1.bg need)=false)
    (cB:(((!(aV (el (el h.I m.toNat).tables g.toNat) page).2)||((aV (el (el h.I m.toNat).tables g.toNat) page).1.page== -1))||(!fj (aV (el (el h.I m.toNat).tables g.toNat) page).1.bg need))=true) (yt:Z=gp h m q need)
    (fT:X=Z.I.set m.toNat {el Z.I m.toNat with tables:=(el Z.I m.toNat).tables.set g.toNat (lk (el (el Z.I m.toNat).tables g.toNat) (el (el Z.I m.toNat).U g.toNat).live (el Z.I m.toNat).outer page)}):m8 h m g page need q io=r6 ⟨Z.mem,X,Z.buf,Z.ag⟩ m g page io:=by
  subst fT yt
  rw [Ug e,if_pos (show D8 _ _ _=true from cB)]
  rfl
theorem aff {h:ah} (e:eJ h=true):h.buf.length<=6/\h.ag.length<=6:=by
  simp only [eJ,qb,ot,Bool.and_eq_true,decide_eq_true_eq] at e
  omega
theorem Ai {h Y:ah} {m q need:Int} (gT:Y=kd h m q need) (p:fN h m q=true):fN Y m q=true/\Y.I.length=h.I.length/\((el Y.I m.toNat).outer.length=8/\(el Y.I m.toNat).tables.length=(el Y.I m.toNat).U.length/\(el Y.I m.toNat).U.length=(el h.I m.toNat).U.length)/\Y.buf.length<=6/\Y.ag.length<=6:=by
  have h1:=px p
  have an:=aff (sg p)
  unfold kd at gT
  split at gT
  · subst gT
    have aF:=wo (zj (h:=h) (m:=m) (x:={el h.I m.toNat with aT:=(el h.I m.toNat).aT.set q.toNat true}) (by simp only [lens,List.length_set]) m.toNat)
    refine⟨aet p,List.length_set,?_,an⟩
    unfold qX
    omega
  · subst gT
    exact⟨p,rfl,⟨h1.2.2.1,h1.2.2.2.2.2,rfl⟩,an⟩
theorem Aj {h:ah} {fb:List aO} {m q need:Int} (gT:fb=(kd h m q need).I) (p:fN h m q=true):fN ⟨h.mem,fb,h.buf,h.ag⟩ m q=true/\fb.length=h.I.length/\((el fb m.toNat).outer.length=8/\(el fb m.toNat).tables.length=(el fb m.toNat).U.length/\(el fb m.toNat).U.length=(el h.I m.toNat).U.length)/\h.buf.length<=6/\h.ag.length<=6:=by
  have e:(⟨h.mem,fb,h.buf,h.ag⟩:ah)=kd h m q need:=by
    rw [gT];unfold kd;split<;>rfl
  exact Ai e p
theorem Ea (b:List aH) (p:Int):(tk b p).length<=b.length:=by
  unfold tk
  split
  · exact Nat.le_refl _
  · exact w5 _ _
theorem NQ (h:ah) (m page:Int) (s:aR):(gP h m page s).buf.length<=h.buf.length/\(gP h m page s).ag.length<=h.ag.length:=⟨Ea _ _,Ea _ _⟩
theorem akp (h:ah) (a b:Int):(iA h a b).buf.length<=h.buf.length/\(iA h a b).ag.length<=h.ag.length:=NQ (kh h a _) a b ⟨-1,0⟩
theorem ajx (h:ah):(kg h).buf.length<=h.buf.length/\(kg h).ag.length<=h.ag.length:=by
  unfold kg
  split
  · exact⟨Nat.le_refl _,Nat.le_refl _⟩
  · exact akp h _ _
theorem abW (h:ah) (m page:Int):(lj h m page).buf.length<=h.buf.length/\(lj h m page).ag.length<=h.ag.length:=by
  have h1:=ajx h
  unfold lj pj
  exact⟨Nat.le_trans (Ea _ _) h1.1,Nat.le_trans (Ea _ _) h1.2⟩
theorem agQ (h:ah) (m page need:Int):(gp h m page need).buf.length<=h.buf.length/\(gp h m page need).ag.length<=h.ag.length:=by
  have h1:(hB h m page).buf.length<=h.buf.length/\(hB h m page).ag.length<=h.ag.length:=by
    unfold hB;split
    · exact abW h m page
    · exact⟨Nat.le_refl _,Nat.le_refl _⟩
  unfold gp
  split
  · unfold q0
    split
    · exact h1
    · exact⟨Nat.le_trans (NQ _ _ _ _).1 h1.1,Nat.le_trans (NQ _ _ _ _).2 h1.2⟩
  · exact h1
theorem Lq {h Z:ah} {m page need:Int} (yt:Z=gp h m page need) (p:fN h m page=true):Z.I.length=h.I.length/\((el Z.I m.toNat).outer.length=8/\(el Z.I m.toNat).U.length=(el h.I m.toNat).U.length/\(el Z.I m.toNat).tables.length=(el h.I m.toNat).tables.length)/\Z.buf.length<=h.buf.length/\Z.ag.length<=h.ag.length:=by
  have h0:=agQ h m page need
  have h1:=agS yt p
  have hm:lens (el (hB h m page).I m.toNat)=lens (el h.I m.toNat):=by
    unfold hB;split
    · unfold lj;rw [Vv];exact(Nv p).2.2
    · rfl
  have an:lens (el (gp h m page need).I m.toNat)=lens (el h.I m.toNat):=by
    unfold gp
    split
    · unfold q0
      split
      · rw [zj (by simp only [lens,List.length_set])];exact hm
      · rw [Gq,zj (by simp only [lens,List.length_set])];exact hm
    · exact hm
  subst yt
  have aF:=wo an
  exact⟨h1.1,⟨h1.2,aF.2.2.2.1,aF.2.2.2.2.1⟩,h0⟩
theorem put_eq {X:List aH} {n:Nat} (h:n=X.length-6):X.drop (X.length-6)=(X.drop n).take (X.length-n):=by
  subst h;rw [List.take_of_length_le (by rw [List.length_drop];exact Nat.le_refl _)]
theorem MH {X:List aH} (h:X.length<=6):X.drop (X.length-6)=X:=by
  rw [show X.length-6=0 by omega];rfl
def anI (h:ah) (m g addr v:Int):ah×Bool:=
  if(a3 addr 0 15=true/\a3 v 0 99=true)/\(cN h m g (ct addr) 2 true).2.2=true then
    (⟨gh (cN h m g (ct addr) 2 true).1.mem (cN h m g (ct addr) 2 true).2.1 (ds addr) v,(cN h m g (ct addr) 2 true).1.I,(cN h m g (ct addr) 2 true).1.buf,(cN h m g (ct addr) 2 true).1.ag⟩,true)
  else(h,false)
def fI (m:List (List Int)) (p c:Int):Int:=if(0<=p/\p<m.length)/\0<=c/\c<(el m p.toNat).length then el (el m p.toNat) c.toNat else 0
theorem HS {K:Nat} {F:au} {w:World} {m:List (List Int)} {q:aD (List Int)} (h:GT.rd K F w m q) (p c:Int):a_ (fI m p c):=by
  unfold fI
  split
  · exact ae.el (ae.el h _ (by omega)) _ (by omega)
  · exact⟨by decide,by decide⟩
def anN (h:ah) (m g addr:Int):ah×Int×Bool:=
  if a3 addr 0 15=true/\(cN h m g (ct addr) 1 true).2.2=true then
    ((cN h m g (ct addr) 1 true).1,fI (cN h m g (ct addr) 1 true).1.mem (cN h m g (ct addr) 1 true).2.1 (ds addr),true)
  else(h,0,false)
end Go.Proofs.YtjlocpdfcanlhaaGreat
