/- A region that draws its order, only asks, and guards operations by tests whose outcome is known: one walk in the text's order. No program is named here. -/
import Derived.Test.YtjlocpdfcanlhaaGreatA2
import Derived.Test.YtjlocpdfcanlhaaGreatA1
import Derived.KernelRfl
import Derived.Lib.BitFns
namespace Go.Proofs.YtjlocpdfcanlhaaGreat
open Go
def KS:List (Nat×Bool)->Nat->Option Bool
  |[],_=>none
  |(s,x)::r,t=>bif Nat.beq s t then some x else KS r t
def ss (eA:List (Nat×Bool)) (i:Nat) (x:eJ):eJ×List (Bool×Bool):=
  match KS eA i,x with
  |some b,.v (.bool c)=>(.v (.bool b),[(c,b)])
  |_,x=>(x,[])
def jN:List (Bool×Bool)->Prop
  |[]=>True
  |p::r=>p.1=p.2/\jN r
theorem jN.nil:jN []:=trivial
theorem jN.cons {c b:Bool} {l:List (Bool×Bool)} (h:c=b) (t:jN l):jN ((c,b)::l):=⟨h,t⟩
theorem jN.left:∀{l r:List (Bool×Bool)},jN (l++r)->jN l
  |[],_,_=>trivial
  |_::_,_,h=>⟨h.1,jN.left h.2⟩
theorem jN.right:∀{l r:List (Bool×Bool)},jN (l++r)->jN r
  |[],_,h=>h
  |_::_,_,h=>jN.right (l:=_) h.2
theorem UC {eA:List (Nat×Bool)} {i:Nat} {x:eJ} (h:jN (ss eA i x).2):(ss eA i x).1=x:=by
  unfold ss at h ⊢
  split
  · rename_i b c hb
    simp only [hb] at h
    have:=h.1
    simp only at this
    rw [this]
  · rfl
def qK (P:Program) (n:Nat) (ops:Array Oper) (eA:List (Nat×Bool)):Nat->List Oper->b1->List Value->Option (b1×List (Ask×Value)×List (Bool×Bool))
  |
    _,[],σ,_=>some (σ,[],[])
  |i,o::r,σ,c8=>
    match oi ops σ o with
    |none=>none
    |some false=>(σ.put n o.dst (.v undef)).bind fun σ'=>qK P n ops eA (i+1) r σ' c8
    |some true=>
      match tH P σ o with
      |some (.val x)=>(σ.put n o.dst (ss eA i x).1).bind fun σ'=>(qK P n ops eA (i+1) r σ' c8).map fun z=>(z.1,z.2.1,(ss eA i x).2++z.2.2)
      |some (.ask q)=>
        match c8 with
        |[]=>none
        |v::tI=>(σ.put n o.dst (ss eA i (.v v)).1).bind fun σ'=>(qK P n ops eA (i+1) r σ' tI).map fun z=>(z.1,(q,v)::z.2.1,(ss eA i (.v v)).2++z.2.2)
      |_=>none
theorem Dy (P:Program) (n:Nat) (ops:Array Oper) (eA:List (Nat×Bool)):∀(l:List Oper) (i:Nat) (σ:b1) (c8:List Value) (z:b1×List (Ask×Value)×List (Bool×Bool)),
    qK P n ops eA i l σ c8=some z->jN z.2.2->kY P n ops l σ c8=some (z.1,z.2.1)
  |
    [],i,σ,c8,z,h,hb=>by
    simp only [qK,Option.some.injEq] at h
    subst h
    rfl
  |o::l,i,σ,c8,z,h,hb=>by
    simp only [qK] at h
    simp only [kY]
    split at h
    · cases h
    · rename_i aJ
      try rw [aJ]
      try simp only
      cases bD:σ.put n o.dst (.v undef) with
      |none=>rw [bD] at h;cases h
      |some bH=>
        rw [bD] at h
        exact Dy P n ops eA l (i+1) bH c8 z h hb
    · rename_i aJ
      try rw [aJ]
      try simp only
      split at h
      · rename_i x hx
        rw [hx]
        simp only
        cases bD:σ.put n o.dst (ss eA i x).1 with
        |none=>rw [bD] at h;cases h
        |some bH=>
          rw [bD] at h
          simp only [Option.bind_some] at h
          cases bn:qK P n ops eA (i+1) l bH c8 with
          |none=>rw [bn] at h;cases h
          |some r=>
            rw [bn] at h
            simp only [Option.map_some,Option.some.injEq] at h
            subst h
            rw [UC hb.left] at bD
            rw [bD]
            exact Dy P n ops eA l (i+1) bH c8 r bn hb.right
      · rename_i q hx
        rw [hx]
        simp only
        split at h
        · cases h
        · rename_i v tI
          cases bD:σ.put n o.dst (ss eA i (.v v)).1 with
          |none=>rw [bD] at h;cases h
          |some bH=>
            rw [bD] at h
            simp only [Option.bind_some] at h
            cases bn:qK P n ops eA (i+1) l bH tI with
            |none=>rw [bn] at h;cases h
            |some r=>
              rw [bn] at h
              simp only [Option.map_some,Option.some.injEq] at h
              subst h
              rw [UC hb.left] at bD
              have:=Dy P n ops eA l (i+1) bH tI r bn hb.right
              simp only [bD,Option.bind_some,this,Option.map_some]
      · cases h
def QJ (P:Program) (n:Nat) (ops:Array Oper) (eA:List (Nat×Bool)) (σ:b1) (c8:List Value) (keep:List Nat) (m:Nat):Option (b1×List (Ask×Value)×List (Bool×Bool)):=
  (qK P n ops eA 0 ops.toList σ c8).map fun x=>(⟨x.1.keep m keep,x.1.aM.take m⟩,x.2)
variable {P:Program} {n:Nat} {w0:World} {M:au} {u:World} {N:au} {β:Nat->Nat} {σ σ':b1} {a:Act} {w:World} {ops:Array Oper} {Q:Exit->Act->World->Prop}
theorem aj.oa (S:aj P n w0 M u N β σ a w) {id:Nat} (eA:List (Nat×Bool)) {claims:List (Ask×Value)} {na:List (Bool×Bool)} {keep:List Nat} {m:Nat} (a9:fr P u N claims)
    (hm:P.follows .mixedOrders=true) (ca:Region.lexB .any ops=true)
    (bV:QJ P n ops eA σ (claims.map (·.2)) keep m=some (σ',claims,na)) (nO:jN na) (K:∀a0 w',aj P n w0 M u N β σ' a0 w'->Q .normal a0 w'):(Code.region id ops true).wp P Q a w:=by
  unfold QJ at bV
  cases bn:qK P n ops eA 0 ops.toList σ (claims.map (·.2)) with
  |none=>rw [bn] at bV;cases bV
  |some r=>
    rw [bn] at bV
    simp only [Option.map_some,Option.some.injEq,Prod.mk.injEq] at bV
    obtain⟨ct,cA⟩:=bV
    have an:r.2.2=na:=by rw [cA]
    have h1:r.2.1=claims:=by rw [cA]
    have hd:=Dy P n ops eA _ _ _ _ _ bn (by rw [an];exact nO)
    refine S.drawn (claims:=claims) (keep:=keep) (m:=m) a9 hm ca ?_ K
    unfold H5
    rw [hd,h1,←ct]
    rfl
end Go.Proofs.YtjlocpdfcanlhaaGreat
namespace Go.Proofs.YtjlocpdfcanlhaaGreat
open Go
set_option linter.unusedSimpArgs false
set_option linter.unusedVariables false
def du (x:Int) (k:Int) (f:Int->Int):Int:=if x=k then f (IntKind.i64.wrap (k+1)) else-1
def fQ (x:Bool) (k:Int) (f:Int->Int):Int:=if x=(Int.tmod k 3==0) then f (IntKind.i64.wrap (k+1)) else-1
def dj (k:Int) (f:Int->Int):Int:=if k<0 then-1 else f k
theorem r4 {x k:Int} {f:Int->Int} (h:x=k) (h1:-9223372036854775808<=k+1) (an:k+1<=9223372036854775807):du x k f=f (k+1):=by
  unfold du;rw [if_pos h,wL ⟨h1,an⟩]
theorem r3 {x:Bool} {k:Int} {f:Int->Int} (h:x=(Int.tmod k 3==0)) (h1:-9223372036854775808<=k+1) (an:k+1<=9223372036854775807):fQ x k f=f (k+1):=by
  unfold fQ;rw [if_pos h,wL ⟨h1,an⟩]
theorem AL {k:Int} {f:Int->Int} (h:0<=k):dj k f=f k:=by unfold dj;rw [if_neg (by omega)]
theorem aaG {α:Type} [GT α] {a:List α} {i:Nat} (h:i<a.length):a.drop i=el a i::a.drop (i+1):=by
  rw [p0 h,List.drop_eq_getElem_cons h]
theorem uO {α:Type} [GT α] {xs:List α} {i k:Nat} {y:α} (e:¬i=k):el (xs.set k y) i=el xs i:=by
  unfold el
  rw [List.getD_eq_getElem?_getD,List.getD_eq_getElem?_getD,List.getElem?_set_ne (fun h=>e h.symm)]
class gS (α:Type) where
  he:α->Int->(Int->Int)->Int
section
variable {α:Type} [gS α]
def hC:List α->Int->(Int->Int)->Int
  |[],k,f=>f k
  |x::r,k,f=>gS.he x k fun k=>hC r k f
def aR (xs:List α) (k:Int):Int:=hC xs k id
instance:gS Int:=⟨du⟩
instance:gS Bool:=⟨fQ⟩
instance:gS (List α):=⟨fun x k f=>dj (aR x k) f⟩
theorem tj (x:List α) (k:Int) (f:Int->Int):gS.he x k f=dj (aR x k) f:=rfl
theorem DY (x k:Int) (f:Int->Int):gS.he x k f=du x k f:=rfl
theorem DU (x:Bool) (k:Int) (f:Int->Int):gS.he x k f=fQ x k f:=rfl
theorem ya (xs bj:List α) (k:Int) (f:Int->Int):hC (xs++bj) k f=hC xs k fun k=>hC bj k f:=by
  induction xs generalizing k with
  |nil=>rfl
  |cons x r gh=>simp only [List.cons_append,hC,gh]
theorem iv [GT α] {a:List α} {i:Nat} {j:Int} {f:Int->Int} (h:i<a.length):hC (a.drop i) j f=gS.he (el a i) j fun k=>hC (a.drop (i+1)) k f:=by
  rw [aaG h];rfl
theorem r2 {a:List α} {i:Nat} {j:Int} (h:a.length<=i):hC (a.drop i) j id=j:=by
  rw [List.drop_of_length_le h];rfl
theorem EO [GT α] {acc:List α} {i:Nat} {k j S5:Int} (h:i<acc.length) (mX:∀f,hC (acc.take i) k f=f j) (he:∀f,gS.he (el acc i) j f=f S5):∀f,hC (acc.take (i+1)) k f=f S5:=by
  intro f
  rw [jh h,ya,mX]
  exact he f
theorem EN {acc:List α} {i:Nat} {k j:Int} (h:acc.length<=i) (mX:∀f,hC (acc.take i) k f=f j):aR acc k=j:=by
  have:=mX id
  rwa [fb h] at this
end
theorem iJ {α:Type} {xs:List α} {k:Nat} {y:α}:(xs.set k y).take k=xs.take k:=by
  rw [List.take_set_of_le (Nat.le_refl _)]
theorem im {α:Type} {xs:List α} {k:Nat} {y:α}:(xs.set k y).drop (k+1)=xs.drop (k+1):=by
  rw [List.drop_set_of_lt (Nat.lt_succ_self _)]
theorem Dq {α:Type} {xs bj:List α} {k:Nat} (h:xs.drop k=bj.drop k):xs.drop (k+1)=bj.drop (k+1):=by
  rw [←List.drop_drop,←List.drop_drop,h]
theorem Dv {α:Type} [GT α] {xs bj:List α} {k:Nat} (h:xs.drop k=bj.drop k):el xs k=el bj k:=by
  have e:(xs.drop k)[0]? =(bj.drop k)[0]? :=by rw [h]
  rw [List.getElem?_drop,List.getElem?_drop,Nat.add_zero] at e
  unfold el
  rw [List.getD_eq_getElem?_getD,List.getD_eq_getElem?_getD,e]
instance:gS aQ:=⟨fun x k f=>du x.page k fun k=>du x.bd k fun k=>f k⟩
theorem D1 (x:aQ) (k:Int) (f:Int->Int):gS.he x k f=du x.page k fun k=>du x.bd k fun k=>f k:=rfl
instance:gS aG:=⟨fun x k f=>du x.tag k fun k=>du x.page k fun k=>du x.host k fun k=>du x.bd k fun k=>f k⟩
theorem DV (x:aG) (k:Int) (f:Int->Int):gS.he x k f=du x.tag k fun k=>du x.page k fun k=>du x.host k fun k=>du x.bd k fun k=>f k:=rfl
instance:gS c_:=⟨fun x k f=>du x.eF k fun k=>du x.x k fun k=>f k⟩
theorem DX (x:c_) (k:Int) (f:Int->Int):gS.he x k f=du x.eF k fun k=>du x.x k fun k=>f k:=rfl
instance:gS fo:=⟨fun x k f=>du x.aX k fun k=>du x.post k fun k=>fQ x.eV k fun k=>f k⟩
instance:gS df:=⟨fun x k f=>du x.kind k fun k=>du x.page k fun k=>fQ x.wr k fun k=>du x.n k fun k=>f k⟩
instance:gS nw:=⟨fun x k f=>du x.kind k fun k=>du x.m k fun k=>du x.g k fun k=>du x.x k fun k=>du x.y k fun k=>du x.z k fun k=>f k⟩
instance:gS pN:=⟨fun x k f=>fQ x.ok k fun k=>du x.n k fun k=>f k⟩
instance:gS bQ:=⟨fun x k f=>dj (aR x.known k) fun k=>dj (aR x.aY k) fun k=>f k⟩
theorem DZ (x:bQ) (k:Int) (f:Int->Int):gS.he x k f=dj (aR x.known k) fun k=>dj (aR x.aY k) fun k=>f k:=rfl
def an8 (x:bQ) (k:Int):Int:=dj (aR x.known k) fun k=>dj (aR x.aY k) fun k=>k
instance:gS ax:=⟨fun x k f=>dj (aR x.prog k) fun k=>du x.acc k fun k=>du x.aw k fun k=>dj (aR x.written k) fun k=>dj (aR x.live k) fun k=>du x.aN.aX k fun k=>du x.aN.post k fun k=>fQ x.aN.eV k fun k=>du x.aB k fun k=>du x.exit.kind k fun k=>du x.exit.page k fun k=>fQ x.exit.wr k fun k=>du x.exit.n k fun k=>fQ x.halted k fun k=>dj (aR x.seen k) fun k=>f k⟩
theorem DW (x:ax) (k:Int) (f:Int->Int):gS.he x k f=dj (aR x.prog k) fun k=>du x.acc k fun k=>du x.aw k fun k=>dj (aR x.written k) fun k=>dj (aR x.live k) fun k=>du x.aN.aX k fun k=>du x.aN.post k fun k=>fQ x.aN.eV k fun k=>du x.aB k fun k=>du x.exit.kind k fun k=>du x.exit.page k fun k=>fQ x.exit.wr k fun k=>du x.exit.n k fun k=>fQ x.halted k fun k=>dj (aR x.seen k) fun k=>f k:=rfl
def an7 (x:ax) (k:Int):Int:=dj (aR x.prog k) fun k=>dj (aR x.written k) fun k=>dj (aR x.live k) fun k=>dj (aR x.seen k) fun k=>k
instance:gS aO:=⟨fun x k f=>dj (aR x.outer k) fun k=>dj (aR x.out k) fun k=>dj (aR x.aT k) fun k=>dj (aR x.U k) fun k=>dj (aR x.outs k) fun k=>du x.aB k fun k=>du x.aX k fun k=>dj (aR x.tables k) fun k=>du x.owned k fun k=>f k⟩
theorem D0 (x:aO) (k:Int) (f:Int->Int):gS.he x k f=dj (aR x.outer k) fun k=>dj (aR x.out k) fun k=>dj (aR x.aT k) fun k=>dj (aR x.U k) fun k=>dj (aR x.outs k) fun k=>du x.aB k fun k=>du x.aX k fun k=>dj (aR x.tables k) fun k=>du x.owned k fun k=>f k:=rfl
def an9 (x:aO) (k:Int):Int:=dj (aR x.outer k) fun k=>dj (aR x.out k) fun k=>dj (aR x.aT k) fun k=>dj (aR x.U k) fun k=>dj (aR x.outs k) fun k=>dj (aR x.tables k) fun k=>k
instance:gS cP:=⟨fun x k f=>dj (aR x.mem k) fun k=>dj (aR x.U k) fun k=>dj (aR x.outs k) fun k=>du x.aB k fun k=>f k⟩
def an6 (x:cP) (k:Int):Int:=dj (aR x.mem k) fun k=>dj (aR x.U k) fun k=>dj (aR x.outs k) fun k=>k
instance:gS ah:=⟨fun x k f=>dj (aR x.mem k) fun k=>dj (aR x.I k) fun k=>dj (aR x.buf k) fun k=>dj (aR x.ag k) fun k=>f k⟩
def ou (x:ah) (k:Int):Int:=dj (aR x.mem k) fun k=>dj (aR x.I k) fun k=>dj (aR x.buf k) fun k=>dj (aR x.ag k) fun k=>k
theorem Sd (k:Int) (h0:0<=k):∀n:Nat,k+1*(n:Int)<=4611686018427387904->∀f,hC (oe n k) k f=f (k+1*(n:Int))
  |
    0,_,f=>by
    show f k=_
    congr 1;omega
  |n+1,h,f=>by
    have e:oe (n+1) k=oe n k++[xY (k+1*(n:Int))]:=by
      unfold oe;rw [List.range_succ,List.map_append];rfl
    rw [e,ya,Sd k h0 n (by omega)]
    show gS.he (xY (k+1*(n:Int))) (k+1*(n:Int)) f=_
    generalize b0:k+1*(n:Int)=j
    simp (disch:=first|omega|rfl) only [DY,xY,r4,r3,Int.add_assoc,Int.reduceAdd]
    congr 1;omega
theorem Sa (k:Int) (h0:0<=k):∀n:Nat,k+1*(n:Int)<=4611686018427387904->∀f,hC (od n k) k f=f (k+1*(n:Int))
  |
    0,_,f=>by
    show f k=_
    congr 1;omega
  |n+1,h,f=>by
    have e:od (n+1) k=od n k++[xV (k+1*(n:Int))]:=by
      unfold od;rw [List.range_succ,List.map_append];rfl
    rw [e,ya,Sa k h0 n (by omega)]
    show gS.he (xV (k+1*(n:Int))) (k+1*(n:Int)) f=_
    generalize b0:k+1*(n:Int)=j
    simp (disch:=first|omega|rfl) only [DU,xV,r4,r3,Int.add_assoc,Int.reduceAdd]
    congr 1;omega
theorem Se (k:Int) (h0:0<=k):∀n:Nat,k+2*(n:Int)<=4611686018427387904->∀f,hC (nF n k) k f=f (k+2*(n:Int))
  |
    0,_,f=>by
    show f k=_
    congr 1;omega
  |n+1,h,f=>by
    have e:nF (n+1) k=nF n k++[xZ (k+2*(n:Int))]:=by
      unfold nF;rw [List.range_succ,List.map_append];rfl
    rw [e,ya,Se k h0 n (by omega)]
    show gS.he (xZ (k+2*(n:Int))) (k+2*(n:Int)) f=_
    generalize b0:k+2*(n:Int)=j
    simp (disch:=first|omega|rfl) only [D1,xZ,r4,r3,Int.add_assoc,Int.reduceAdd]
    congr 1;omega
theorem Sb (k:Int) (h0:0<=k):∀n:Nat,k+4*(n:Int)<=4611686018427387904->∀f,hC (mc n k) k f=f (k+4*(n:Int))
  |
    0,_,f=>by
    show f k=_
    congr 1;omega
  |n+1,h,f=>by
    have e:mc (n+1) k=mc n k++[xW (k+4*(n:Int))]:=by
      unfold mc;rw [List.range_succ,List.map_append];rfl
    rw [e,ya,Sb k h0 n (by omega)]
    show gS.he (xW (k+4*(n:Int))) (k+4*(n:Int)) f=_
    generalize b0:k+4*(n:Int)=j
    simp (disch:=first|omega|rfl) only [DV,xW,r4,r3,Int.add_assoc,Int.reduceAdd]
    congr 1;omega
theorem Sc (k:Int) (h0:0<=k):∀n:Nat,k+2*(n:Int)<=4611686018427387904->∀f,hC (nE n k) k f=f (k+2*(n:Int))
  |
    0,_,f=>by
    show f k=_
    congr 1;omega
  |n+1,h,f=>by
    have e:nE (n+1) k=nE n k++[xX (k+2*(n:Int))]:=by
      unfold nE;rw [List.range_succ,List.map_append];rfl
    rw [e,ya,Sc k h0 n (by omega)]
    show gS.he (xX (k+2*(n:Int))) (k+2*(n:Int)) f=_
    generalize b0:k+2*(n:Int)=j
    simp (disch:=first|omega|rfl) only [DX,xX,r4,r3,Int.add_assoc,Int.reduceAdd]
    congr 1;omega
section
variable {w0:World} {M:au} {u:World} {N:au}
theorem ad.focus {α β:Type} [GT α] [GT β] {xs:List α} {p:aC α} {F:au} (o:ad w0 M u N F xs p) {k:Nat} (hk:k<xs.length) (get:α->β) (ni:GT.Ptr α->GT.Ptr β) (set:α->β->α) (pB:GT.Ptr α->GT.Ptr β->GT.Ptr α)
    (Ay:∀(G:au) (u:World) (x:α) (r:GT.Ptr α),GT.own b7 G u x r->∃H:au,GT.own b7 H u (get x) (ni r)/\(∀b,H b->G b)/\∀(bI:World) (y:β) (q:GT.Ptr β),GT.own b7 H bI y q->(∀b,G b->¬H b->bI.heap[b]? =u.heap[b]?)->GT.cells y q=GT.cells (get x) (ni r)->GT.own b7 G bI (set x y) (pB r q)/\GT.cells (set x y) (pB r q)=GT.cells x r):
    ∃H:au,ad w0 M u N H (get (el xs k)) (ni (p.2 k))/\(∀b,H b->F b)/\∀(bI:World) (aA:au) (y:β) (q:GT.Ptr β),(∀b,N b->¬H b->aA b/\bI.heap[b]? =u.heap[b]?)->ad w0 M bI aA H y q->GT.cells y q=GT.cells (get (el xs k)) (ni (p.2 k))->
      ∃cw,ad w0 M bI aA F (xs.set k (set (el xs k) y)) (p.1,cw):=by
  have bM:g1 b7 F u xs p:=o.own
  obtain⟨G,cm,a8,b4⟩:=bM.el
  obtain⟨H,h1,an,aF⟩:=Ay (G k) u (el xs k) (p.2 k) (cm k hk)
  have u2:∀b,H b->F b:=fun b hb=>(a8 k hk b (an b hb)).1
  refine⟨H,⟨h1,fun b hb=>o.sub b (u2 b hb),fun b hb=>o.dJ b (u2 b hb)⟩,u2,fun bI aA y q up tJ hc=>?_⟩
  have keep:∀b,F b->¬H b->bI.heap[b]? =u.heap[b]? :=fun b hb cX=>(up b (o.sub b hb) cX).2
  have vE:=bM.cap
  have qa:p.1.nil=false:=bM.Bm (by omega)
  have yq:¬H p.1.b:=fun hb=>(a8 k hk _ (an _ hb)).2 rfl
  have yp:F p.1.b:=(bM.row qa).1
  obtain⟨hv,nx⟩:=aF bI y q tJ.own (fun b hb cX=>keep b (a8 k hk b hb).1 cX) hc
  refine⟨fun i=>if i=k then pB (p.2 k) q else p.2 i,⟨?_,?_,o.dJ⟩⟩
  · show g1 b7 F bI _ _
    refine⟨by rw [List.length_set];exact bM.le,by rw [List.length_set];exact bM.cap,bM.o5,bM.null,fun z=>⟨(bM.row z).1,?_⟩,fun i hi=>?_,G,fun i hi=>?_,?_,?_⟩
    · rw [keep _ yp yq];exact(bM.row z).2
    · rw [List.length_set] at hi
      have ot:kQ bI p.1.b (p.1.off+i*GT.width α) (GT.cells (el xs i) (p.2 i)):=(bM.cell i hi).uw (keep _ yp yq)
      by_cases e:i=k
      · subst e
        rw [dS hi]
        simp only [if_true]
        rw [nx];exact ot
      · rw [uO e]
        simp only [if_neg e]
        exact ot
    · rw [List.length_set] at hi
      by_cases e:i=k
      · subst e
        rw [dS hi]
        simp only [if_true]
        exact hv
      · rw [uO e]
        simp only [if_neg e]
        exact GT.b8 (cm i hi) fun b hb _=>keep b (a8 i hi b hb).1 fun bC=>b4 i k hi hk e b hb (an b bC)
    · intro i hi;rw [List.length_set] at hi;exact a8 i hi
    · intro i j hi b0;rw [List.length_set] at hi b0;exact b4 i j hi b0
  · intro b hb
    by_cases bC:H b
    · exact tJ.sub b bC
    · exact(up b (o.sub b hb) bC).1
theorem abJ {β:Type} [GT β] {xs:List β} {p:aC β} {F:au} (o:ad w0 M u N F xs p) {k:Nat} (hk:k<xs.length):
    ∃
      H:au,ad w0 M u N H (el xs k) (p.2 k)/\(∀b,H b->F b)/\∀(bI:World) (aA:au) (y:β) (q:GT.Ptr β),(∀b,N b->¬H b->aA b/\bI.heap[b]? =u.heap[b]?)->ad w0 M bI aA H y q->GT.cells y q=GT.cells (el xs k) (p.2 k)->
      ∃cw,ad w0 M bI aA F (xs.set k y) (p.1,cw):=
  o.focus hk (fun x=>x) (fun r=>r) (fun _ y=>y) (fun _ q=>q) fun G u x r h=>⟨G,h,fun _ z=>z,fun _ _ _ cl _ hc=>⟨cl,hc⟩⟩
theorem abA {xs:List bQ} {p:aC bQ} {F:au} (o:ad w0 M u N F xs p) {k:Nat} (hk:k<xs.length):
    ∃
      H:au,ad w0 M u N H (el xs k).known (p.2 k).known/\(∀b,H b->F b)/\∀(bI:World) (aA:au) (y:List Bool) (q:GT.Ptr (List Bool)),(∀b,N b->¬H b->aA b/\bI.heap[b]? =u.heap[b]?)->ad w0 M bI aA H y q->GT.cells y q=GT.cells (el xs k).known (p.2 k).known->
      ∃cw,ad w0 M bI aA F (xs.set k {el xs k with known:=y}) (p.1,cw):=
  o.focus hk (fun x=>x.known) (fun r=>r.known) (fun x y=>{x with known:=y}) (fun r q=>{r with known:=q}) fun G u x r h=>by
    obtain⟨cH,cE,dx,cm,s⟩:=h
    refine⟨cH,dx,s.sub _ (by simp),fun bI y q cl hw hc=>⟨⟨cH,cE,cl,GT.b8 cm fun b hb _=>hw b (s.sub _ (by simp) b hb) fun bC=>(cy s.cq (i:=0) (j:=1) (by decide) rfl rfl) b bC hb,s⟩,?_⟩⟩
    have e:=(List.cons.inj hc).1
    show [R y.length q.1,R x.aY.length r.aY.1]=[R x.known.length r.known.1,R x.aY.length r.aY.1]
    rw [e]
theorem abB {xs:List bQ} {p:aC bQ} {F:au} (o:ad w0 M u N F xs p) {k:Nat} (hk:k<xs.length):
    ∃
      H:au,ad w0 M u N H (el xs k).aY (p.2 k).aY/\(∀b,H b->F b)/\∀(bI:World) (aA:au) (y:List aQ) (q:GT.Ptr (List aQ)),(∀b,N b->¬H b->aA b/\bI.heap[b]? =u.heap[b]?)->ad w0 M bI aA H y q->GT.cells y q=GT.cells (el xs k).aY (p.2 k).aY->
      ∃cw,ad w0 M bI aA F (xs.set k {el xs k with aY:=y}) (p.1,cw):=
  o.focus hk (fun x=>x.aY) (fun r=>r.aY) (fun x y=>{x with aY:=y}) (fun r q=>{r with aY:=q}) fun G u x r h=>by
    obtain⟨cH,cE,dx,cm,s⟩:=h
    refine⟨cE,cm,s.sub _ (by simp),fun bI y q cl hw hc=>⟨⟨cH,cE,GT.b8 dx fun b hb _=>hw b (s.sub _ (by simp) b hb) fun bC=>(cy s.cq (i:=0) (j:=1) (by decide) rfl rfl) b hb bC,cl,s⟩,?_⟩⟩
    have e:=(List.cons.inj hc).1
    show [R x.known.length r.known.1,R y.length q.1]=[R x.known.length r.known.1,R x.aY.length r.aY.1]
    rw [e]
theorem abx {xs:List ax} {p:aC ax} {F:au} (o:ad w0 M u N F xs p) {k:Nat} (hk:k<xs.length):
    ∃
      H:au,ad w0 M u N H (el xs k).prog (p.2 k).prog/\(∀b,H b->F b)/\∀(bI:World) (aA:au) (y:List c_) (q:GT.Ptr (List c_)),(∀b,N b->¬H b->aA b/\bI.heap[b]? =u.heap[b]?)->ad w0 M bI aA H y q->GT.cells y q=GT.cells (el xs k).prog (p.2 k).prog->
      ∃cw,ad w0 M bI aA F (xs.set k {el xs k with prog:=y}) (p.1,cw):=
  o.focus hk (fun x=>x.prog) (fun r=>r.prog) (fun x y=>{x with prog:=y}) (fun r q=>{r with prog:=q}) fun G u x r h=>by
    obtain⟨cH,cE,cT,c1,dx,cm,a8,b4,s,f0,f1,f2,f3,f4⟩:=h
    refine⟨cH,dx,s.sub _ (by simp),fun bI y q cl hw hc=>⟨⟨cH,cE,cT,c1,cl,GT.b8 cm fun b hb _=>hw b (s.sub _ (by simp) b hb) fun bC=>(cy s.cq (i:=0) (j:=1) (by decide) rfl rfl) b bC hb,GT.b8 a8 fun b hb _=>hw b (s.sub _ (by simp) b hb) fun bC=>(cy s.cq (i:=0) (j:=2) (by decide) rfl rfl) b bC hb,GT.b8 b4 fun b hb _=>hw b (s.sub _ (by simp) b hb) fun bC=>(cy s.cq (i:=0) (j:=3) (by decide) rfl rfl) b bC hb,s,f0,f1,f2,f3,f4⟩,?_⟩⟩
    have e:=(List.cons.inj hc).1
    show [R y.length q.1,aa x.acc,aa x.aw,R x.written.length r.written.1,R x.live.length r.live.1,aa x.aN.aX,aa x.aN.post,B x.aN.eV,aa x.aB,aa x.exit.kind,aa x.exit.page,B x.exit.wr,aa x.exit.n,B x.halted,R x.seen.length r.seen.1]=[R x.prog.length r.prog.1,aa x.acc,aa x.aw,R x.written.length r.written.1,R x.live.length r.live.1,aa x.aN.aX,aa x.aN.post,B x.aN.eV,aa x.aB,aa x.exit.kind,aa x.exit.page,B x.exit.wr,aa x.exit.n,B x.halted,R x.seen.length r.seen.1]
    rw [e]
theorem abz {xs:List ax} {p:aC ax} {F:au} (o:ad w0 M u N F xs p) {k:Nat} (hk:k<xs.length):
    ∃
      H:au,ad w0 M u N H (el xs k).written (p.2 k).written/\(∀b,H b->F b)/\∀(bI:World) (aA:au) (y:List aQ) (q:GT.Ptr (List aQ)),(∀b,N b->¬H b->aA b/\bI.heap[b]? =u.heap[b]?)->ad w0 M bI aA H y q->GT.cells y q=GT.cells (el xs k).written (p.2 k).written->
      ∃cw,ad w0 M bI aA F (xs.set k {el xs k with written:=y}) (p.1,cw):=
  o.focus hk (fun x=>x.written) (fun r=>r.written) (fun x y=>{x with written:=y}) (fun r q=>{r with written:=q}) fun G u x r h=>by
    obtain⟨cH,cE,cT,c1,dx,cm,a8,b4,s,f0,f1,f2,f3,f4⟩:=h
    refine⟨cE,cm,s.sub _ (by simp),fun bI y q cl hw hc=>⟨⟨cH,cE,cT,c1,GT.b8 dx fun b hb _=>hw b (s.sub _ (by simp) b hb) fun bC=>(cy s.cq (i:=0) (j:=1) (by decide) rfl rfl) b hb bC,cl,GT.b8 a8 fun b hb _=>hw b (s.sub _ (by simp) b hb) fun bC=>(cy s.cq (i:=1) (j:=2) (by decide) rfl rfl) b bC hb,GT.b8 b4 fun b hb _=>hw b (s.sub _ (by simp) b hb) fun bC=>(cy s.cq (i:=1) (j:=3) (by decide) rfl rfl) b bC hb,s,f0,f1,f2,f3,f4⟩,?_⟩⟩
    have e:=(List.cons.inj hc).1
    show [R x.prog.length r.prog.1,aa x.acc,aa x.aw,R y.length q.1,R x.live.length r.live.1,aa x.aN.aX,aa x.aN.post,B x.aN.eV,aa x.aB,aa x.exit.kind,aa x.exit.page,B x.exit.wr,aa x.exit.n,B x.halted,R x.seen.length r.seen.1]=[R x.prog.length r.prog.1,aa x.acc,aa x.aw,R x.written.length r.written.1,R x.live.length r.live.1,aa x.aN.aX,aa x.aN.post,B x.aN.eV,aa x.aB,aa x.exit.kind,aa x.exit.page,B x.exit.wr,aa x.exit.n,B x.halted,R x.seen.length r.seen.1]
    rw [e]
theorem abw {xs:List ax} {p:aC ax} {F:au} (o:ad w0 M u N F xs p) {k:Nat} (hk:k<xs.length):
    ∃
      H:au,ad w0 M u N H (el xs k).live (p.2 k).live/\(∀b,H b->F b)/\∀(bI:World) (aA:au) (y:List aQ) (q:GT.Ptr (List aQ)),(∀b,N b->¬H b->aA b/\bI.heap[b]? =u.heap[b]?)->ad w0 M bI aA H y q->GT.cells y q=GT.cells (el xs k).live (p.2 k).live->
      ∃cw,ad w0 M bI aA F (xs.set k {el xs k with live:=y}) (p.1,cw):=
  o.focus hk (fun x=>x.live) (fun r=>r.live) (fun x y=>{x with live:=y}) (fun r q=>{r with live:=q}) fun G u x r h=>by
    obtain⟨cH,cE,cT,c1,dx,cm,a8,b4,s,f0,f1,f2,f3,f4⟩:=h
    refine⟨cT,a8,s.sub _ (by simp),fun bI y q cl hw hc=>⟨⟨cH,cE,cT,c1,GT.b8 dx fun b hb _=>hw b (s.sub _ (by simp) b hb) fun bC=>(cy s.cq (i:=0) (j:=2) (by decide) rfl rfl) b hb bC,GT.b8 cm fun b hb _=>hw b (s.sub _ (by simp) b hb) fun bC=>(cy s.cq (i:=1) (j:=2) (by decide) rfl rfl) b hb bC,cl,GT.b8 b4 fun b hb _=>hw b (s.sub _ (by simp) b hb) fun bC=>(cy s.cq (i:=2) (j:=3) (by decide) rfl rfl) b bC hb,s,f0,f1,f2,f3,f4⟩,?_⟩⟩
    have e:=(List.cons.inj hc).1
    show [R x.prog.length r.prog.1,aa x.acc,aa x.aw,R x.written.length r.written.1,R y.length q.1,aa x.aN.aX,aa x.aN.post,B x.aN.eV,aa x.aB,aa x.exit.kind,aa x.exit.page,B x.exit.wr,aa x.exit.n,B x.halted,R x.seen.length r.seen.1]=[R x.prog.length r.prog.1,aa x.acc,aa x.aw,R x.written.length r.written.1,R x.live.length r.live.1,aa x.aN.aX,aa x.aN.post,B x.aN.eV,aa x.aB,aa x.exit.kind,aa x.exit.page,B x.exit.wr,aa x.exit.n,B x.halted,R x.seen.length r.seen.1]
    rw [e]
theorem aby {xs:List ax} {p:aC ax} {F:au} (o:ad w0 M u N F xs p) {k:Nat} (hk:k<xs.length):
    ∃
      H:au,ad w0 M u N H (el xs k).seen (p.2 k).seen/\(∀b,H b->F b)/\∀(bI:World) (aA:au) (y:List Int) (q:GT.Ptr (List Int)),(∀b,N b->¬H b->aA b/\bI.heap[b]? =u.heap[b]?)->ad w0 M bI aA H y q->GT.cells y q=GT.cells (el xs k).seen (p.2 k).seen->
      ∃cw,ad w0 M bI aA F (xs.set k {el xs k with seen:=y}) (p.1,cw):=
  o.focus hk (fun x=>x.seen) (fun r=>r.seen) (fun x y=>{x with seen:=y}) (fun r q=>{r with seen:=q}) fun G u x r h=>by
    obtain⟨cH,cE,cT,c1,dx,cm,a8,b4,s,f0,f1,f2,f3,f4⟩:=h
    refine⟨c1,b4,s.sub _ (by simp),fun bI y q cl hw hc=>⟨⟨cH,cE,cT,c1,GT.b8 dx fun b hb _=>hw b (s.sub _ (by simp) b hb) fun bC=>(cy s.cq (i:=0) (j:=3) (by decide) rfl rfl) b hb bC,GT.b8 cm fun b hb _=>hw b (s.sub _ (by simp) b hb) fun bC=>(cy s.cq (i:=1) (j:=3) (by decide) rfl rfl) b hb bC,GT.b8 a8 fun b hb _=>hw b (s.sub _ (by simp) b hb) fun bC=>(cy s.cq (i:=2) (j:=3) (by decide) rfl rfl) b hb bC,cl,s,f0,f1,f2,f3,f4⟩,?_⟩⟩
    have e:=(List.cons.inj hc).1
    show [R x.prog.length r.prog.1,aa x.acc,aa x.aw,R x.written.length r.written.1,R x.live.length r.live.1,aa x.aN.aX,aa x.aN.post,B x.aN.eV,aa x.aB,aa x.exit.kind,aa x.exit.page,B x.exit.wr,aa x.exit.n,B x.halted,R y.length q.1]=[R x.prog.length r.prog.1,aa x.acc,aa x.aw,R x.written.length r.written.1,R x.live.length r.live.1,aa x.aN.aX,aa x.aN.post,B x.aN.eV,aa x.aB,aa x.exit.kind,aa x.exit.page,B x.exit.wr,aa x.exit.n,B x.halted,R x.seen.length r.seen.1]
    rw [e]
theorem aij {K:Nat} {G:au} {u:World} {x:ax} {p:c6} {v:Int} (h:GT.own K G u x p) (b5:a_ v):GT.own K G u ({x with acc:=v}:ax) p:=by
  obtain⟨cH,cE,cT,c1,dx,cm,a8,b4,s,f0,f1,f2,f3,f4⟩:=h
  exact⟨cH,cE,cT,c1,dx,cm,a8,b4,s,b5,f1,f2,f3,f4⟩
theorem ail {K:Nat} {G:au} {u:World} {x:ax} {p:c6} {v:Int} (h:GT.own K G u x p) (b5:a_ v):GT.own K G u ({x with aw:=v}:ax) p:=by
  obtain⟨cH,cE,cT,c1,dx,cm,a8,b4,s,f0,f1,f2,f3,f4⟩:=h
  exact⟨cH,cE,cT,c1,dx,cm,a8,b4,s,f0,b5,f2,f3,f4⟩
theorem Ma {K:Nat} {G:au} {u:World} {x:ax} {p:c6} {v:fo} (h:GT.own K G u x p) (b5:hr v):GT.own K G u ({x with aN:=v}:ax) p:=by
  obtain⟨cH,cE,cT,c1,dx,cm,a8,b4,s,f0,f1,f2,f3,f4⟩:=h
  exact⟨cH,cE,cT,c1,dx,cm,a8,b4,s,f0,f1,b5,f3,f4⟩
theorem aim {K:Nat} {G:au} {u:World} {x:ax} {p:c6} {v:Int} (h:GT.own K G u x p) (b5:a_ v):GT.own K G u ({x with aB:=v}:ax) p:=by
  obtain⟨cH,cE,cT,c1,dx,cm,a8,b4,s,f0,f1,f2,f3,f4⟩:=h
  exact⟨cH,cE,cT,c1,dx,cm,a8,b4,s,f0,f1,f2,b5,f4⟩
theorem Fm {K:Nat} {G:au} {u:World} {x:ax} {p:c6} {v:df} (h:GT.own K G u x p) (b5:fF v):GT.own K G u ({x with exit:=v}:ax) p:=by
  obtain⟨cH,cE,cT,c1,dx,cm,a8,b4,s,f0,f1,f2,f3,f4⟩:=h
  exact⟨cH,cE,cT,c1,dx,cm,a8,b4,s,f0,f1,f2,f3,b5⟩
theorem aik {K:Nat} {G:au} {u:World} {x:ax} {p:c6} {v:Bool} (h:GT.own K G u x p):GT.own K G u ({x with halted:=v}:ax) p:=by
  obtain⟨cH,cE,cT,c1,dx,cm,a8,b4,s,f0,f1,f2,f3,f4⟩:=h
  exact⟨cH,cE,cT,c1,dx,cm,a8,b4,s,f0,f1,f2,f3,f4⟩
theorem abF {xs:List aO} {p:aC aO} {F:au} (o:ad w0 M u N F xs p) {k:Nat} (hk:k<xs.length):
    ∃
      H:au,ad w0 M u N H (el xs k).outer (p.2 k).outer/\(∀b,H b->F b)/\∀(bI:World) (aA:au) (y:List aQ) (q:GT.Ptr (List aQ)),(∀b,N b->¬H b->aA b/\bI.heap[b]? =u.heap[b]?)->ad w0 M bI aA H y q->GT.cells y q=GT.cells (el xs k).outer (p.2 k).outer->
      ∃cw,ad w0 M bI aA F (xs.set k {el xs k with outer:=y}) (p.1,cw):=
  o.focus hk (fun x=>x.outer) (fun r=>r.outer) (fun x y=>{x with outer:=y}) (fun r q=>{r with outer:=q}) fun G u x r h=>by
    obtain⟨cH,cE,cT,c1,eC,eQ,dx,cm,a8,b4,cB,dK,s,f0,f1,f2⟩:=h
    refine⟨cH,dx,s.sub _ (by simp),fun bI y q cl hw hc=>⟨⟨cH,cE,cT,c1,eC,eQ,cl,GT.b8 cm fun b hb _=>hw b (s.sub _ (by simp) b hb) fun bC=>(cy s.cq (i:=0) (j:=1) (by decide) rfl rfl) b bC hb,GT.b8 a8 fun b hb _=>hw b (s.sub _ (by simp) b hb) fun bC=>(cy s.cq (i:=0) (j:=2) (by decide) rfl rfl) b bC hb,GT.b8 b4 fun b hb _=>hw b (s.sub _ (by simp) b hb) fun bC=>(cy s.cq (i:=0) (j:=3) (by decide) rfl rfl) b bC hb,GT.b8 cB fun b hb _=>hw b (s.sub _ (by simp) b hb) fun bC=>(cy s.cq (i:=0) (j:=4) (by decide) rfl rfl) b bC hb,GT.b8 dK fun b hb _=>hw b (s.sub _ (by simp) b hb) fun bC=>(cy s.cq (i:=0) (j:=5) (by decide) rfl rfl) b bC hb,s,f0,f1,f2⟩,?_⟩⟩
    have e:=(List.cons.inj hc).1
    show [R y.length q.1,R x.out.length r.out.1,R x.aT.length r.aT.1,R x.U.length r.U.1,R x.outs.length r.outs.1,aa x.aB,aa x.aX,R x.tables.length r.tables.1,aa x.owned]=[R x.outer.length r.outer.1,R x.out.length r.out.1,R x.aT.length r.aT.1,R x.U.length r.U.1,R x.outs.length r.outs.1,aa x.aB,aa x.aX,R x.tables.length r.tables.1,aa x.owned]
    rw [e]
theorem abE {xs:List aO} {p:aC aO} {F:au} (o:ad w0 M u N F xs p) {k:Nat} (hk:k<xs.length):
    ∃
      H:au,ad w0 M u N H (el xs k).out (p.2 k).out/\(∀b,H b->F b)/\∀(bI:World) (aA:au) (y:List (List Int)) (q:GT.Ptr (List (List Int))),(∀b,N b->¬H b->aA b/\bI.heap[b]? =u.heap[b]?)->ad w0 M bI aA H y q->GT.cells y q=GT.cells (el xs k).out (p.2 k).out->
      ∃cw,ad w0 M bI aA F (xs.set k {el xs k with out:=y}) (p.1,cw):=
  o.focus hk (fun x=>x.out) (fun r=>r.out) (fun x y=>{x with out:=y}) (fun r q=>{r with out:=q}) fun G u x r h=>by
    obtain⟨cH,cE,cT,c1,eC,eQ,dx,cm,a8,b4,cB,dK,s,f0,f1,f2⟩:=h
    refine⟨cE,cm,s.sub _ (by simp),fun bI y q cl hw hc=>⟨⟨cH,cE,cT,c1,eC,eQ,GT.b8 dx fun b hb _=>hw b (s.sub _ (by simp) b hb) fun bC=>(cy s.cq (i:=0) (j:=1) (by decide) rfl rfl) b hb bC,cl,GT.b8 a8 fun b hb _=>hw b (s.sub _ (by simp) b hb) fun bC=>(cy s.cq (i:=1) (j:=2) (by decide) rfl rfl) b bC hb,GT.b8 b4 fun b hb _=>hw b (s.sub _ (by simp) b hb) fun bC=>(cy s.cq (i:=1) (j:=3) (by decide) rfl rfl) b bC hb,GT.b8 cB fun b hb _=>hw b (s.sub _ (by simp) b hb) fun bC=>(cy s.cq (i:=1) (j:=4) (by decide) rfl rfl) b bC hb,GT.b8 dK fun b hb _=>hw b (s.sub _ (by simp) b hb) fun bC=>(cy s.cq (i:=1) (j:=5) (by decide) rfl rfl) b bC hb,s,f0,f1,f2⟩,?_⟩⟩
    have e:=(List.cons.inj hc).1
    show [R x.outer.length r.outer.1,R y.length q.1,R x.aT.length r.aT.1,R x.U.length r.U.1,R x.outs.length r.outs.1,aa x.aB,aa x.aX,R x.tables.length r.tables.1,aa x.owned]=[R x.outer.length r.outer.1,R x.out.length r.out.1,R x.aT.length r.aT.1,R x.U.length r.U.1,R x.outs.length r.outs.1,aa x.aB,aa x.aX,R x.tables.length r.tables.1,aa x.owned]
    rw [e]
theorem abC {xs:List aO} {p:aC aO} {F:au} (o:ad w0 M u N F xs p) {k:Nat} (hk:k<xs.length):
    ∃
      H:au,ad w0 M u N H (el xs k).aT (p.2 k).aT/\(∀b,H b->F b)/\∀(bI:World) (aA:au) (y:List Bool) (q:GT.Ptr (List Bool)),(∀b,N b->¬H b->aA b/\bI.heap[b]? =u.heap[b]?)->ad w0 M bI aA H y q->GT.cells y q=GT.cells (el xs k).aT (p.2 k).aT->
      ∃cw,ad w0 M bI aA F (xs.set k {el xs k with aT:=y}) (p.1,cw):=
  o.focus hk (fun x=>x.aT) (fun r=>r.aT) (fun x y=>{x with aT:=y}) (fun r q=>{r with aT:=q}) fun G u x r h=>by
    obtain⟨cH,cE,cT,c1,eC,eQ,dx,cm,a8,b4,cB,dK,s,f0,f1,f2⟩:=h
    refine⟨cT,a8,s.sub _ (by simp),fun bI y q cl hw hc=>⟨⟨cH,cE,cT,c1,eC,eQ,GT.b8 dx fun b hb _=>hw b (s.sub _ (by simp) b hb) fun bC=>(cy s.cq (i:=0) (j:=2) (by decide) rfl rfl) b hb bC,GT.b8 cm fun b hb _=>hw b (s.sub _ (by simp) b hb) fun bC=>(cy s.cq (i:=1) (j:=2) (by decide) rfl rfl) b hb bC,cl,GT.b8 b4 fun b hb _=>hw b (s.sub _ (by simp) b hb) fun bC=>(cy s.cq (i:=2) (j:=3) (by decide) rfl rfl) b bC hb,GT.b8 cB fun b hb _=>hw b (s.sub _ (by simp) b hb) fun bC=>(cy s.cq (i:=2) (j:=4) (by decide) rfl rfl) b bC hb,GT.b8 dK fun b hb _=>hw b (s.sub _ (by simp) b hb) fun bC=>(cy s.cq (i:=2) (j:=5) (by decide) rfl rfl) b bC hb,s,f0,f1,f2⟩,?_⟩⟩
    have e:=(List.cons.inj hc).1
    show [R x.outer.length r.outer.1,R x.out.length r.out.1,R y.length q.1,R x.U.length r.U.1,R x.outs.length r.outs.1,aa x.aB,aa x.aX,R x.tables.length r.tables.1,aa x.owned]=[R x.outer.length r.outer.1,R x.out.length r.out.1,R x.aT.length r.aT.1,R x.U.length r.U.1,R x.outs.length r.outs.1,aa x.aB,aa x.aX,R x.tables.length r.tables.1,aa x.owned]
    rw [e]
theorem abD {xs:List aO} {p:aC aO} {F:au} (o:ad w0 M u N F xs p) {k:Nat} (hk:k<xs.length):
    ∃
      H:au,ad w0 M u N H (el xs k).U (p.2 k).U/\(∀b,H b->F b)/\∀(bI:World) (aA:au) (y:List ax) (q:GT.Ptr (List ax)),(∀b,N b->¬H b->aA b/\bI.heap[b]? =u.heap[b]?)->ad w0 M bI aA H y q->GT.cells y q=GT.cells (el xs k).U (p.2 k).U->
      ∃cw,ad w0 M bI aA F (xs.set k {el xs k with U:=y}) (p.1,cw):=
  o.focus hk (fun x=>x.U) (fun r=>r.U) (fun x y=>{x with U:=y}) (fun r q=>{r with U:=q}) fun G u x r h=>by
    obtain⟨cH,cE,cT,c1,eC,eQ,dx,cm,a8,b4,cB,dK,s,f0,f1,f2⟩:=h
    refine⟨c1,b4,s.sub _ (by simp),fun bI y q cl hw hc=>⟨⟨cH,cE,cT,c1,eC,eQ,GT.b8 dx fun b hb _=>hw b (s.sub _ (by simp) b hb) fun bC=>(cy s.cq (i:=0) (j:=3) (by decide) rfl rfl) b hb bC,GT.b8 cm fun b hb _=>hw b (s.sub _ (by simp) b hb) fun bC=>(cy s.cq (i:=1) (j:=3) (by decide) rfl rfl) b hb bC,GT.b8 a8 fun b hb _=>hw b (s.sub _ (by simp) b hb) fun bC=>(cy s.cq (i:=2) (j:=3) (by decide) rfl rfl) b hb bC,cl,GT.b8 cB fun b hb _=>hw b (s.sub _ (by simp) b hb) fun bC=>(cy s.cq (i:=3) (j:=4) (by decide) rfl rfl) b bC hb,GT.b8 dK fun b hb _=>hw b (s.sub _ (by simp) b hb) fun bC=>(cy s.cq (i:=3) (j:=5) (by decide) rfl rfl) b bC hb,s,f0,f1,f2⟩,?_⟩⟩
    have e:=(List.cons.inj hc).1
    show [R x.outer.length r.outer.1,R x.out.length r.out.1,R x.aT.length r.aT.1,R y.length q.1,R x.outs.length r.outs.1,aa x.aB,aa x.aX,R x.tables.length r.tables.1,aa x.owned]=[R x.outer.length r.outer.1,R x.out.length r.out.1,R x.aT.length r.aT.1,R x.U.length r.U.1,R x.outs.length r.outs.1,aa x.aB,aa x.aX,R x.tables.length r.tables.1,aa x.owned]
    rw [e]
theorem abG {xs:List aO} {p:aC aO} {F:au} (o:ad w0 M u N F xs p) {k:Nat} (hk:k<xs.length):
    ∃
      H:au,ad w0 M u N H (el xs k).outs (p.2 k).outs/\(∀b,H b->F b)/\∀(bI:World) (aA:au) (y:List Int) (q:GT.Ptr (List Int)),(∀b,N b->¬H b->aA b/\bI.heap[b]? =u.heap[b]?)->ad w0 M bI aA H y q->GT.cells y q=GT.cells (el xs k).outs (p.2 k).outs->
      ∃cw,ad w0 M bI aA F (xs.set k {el xs k with outs:=y}) (p.1,cw):=
  o.focus hk (fun x=>x.outs) (fun r=>r.outs) (fun x y=>{x with outs:=y}) (fun r q=>{r with outs:=q}) fun G u x r h=>by
    obtain⟨cH,cE,cT,c1,eC,eQ,dx,cm,a8,b4,cB,dK,s,f0,f1,f2⟩:=h
    refine⟨eC,cB,s.sub _ (by simp),fun bI y q cl hw hc=>⟨⟨cH,cE,cT,c1,eC,eQ,GT.b8 dx fun b hb _=>hw b (s.sub _ (by simp) b hb) fun bC=>(cy s.cq (i:=0) (j:=4) (by decide) rfl rfl) b hb bC,GT.b8 cm fun b hb _=>hw b (s.sub _ (by simp) b hb) fun bC=>(cy s.cq (i:=1) (j:=4) (by decide) rfl rfl) b hb bC,GT.b8 a8 fun b hb _=>hw b (s.sub _ (by simp) b hb) fun bC=>(cy s.cq (i:=2) (j:=4) (by decide) rfl rfl) b hb bC,GT.b8 b4 fun b hb _=>hw b (s.sub _ (by simp) b hb) fun bC=>(cy s.cq (i:=3) (j:=4) (by decide) rfl rfl) b hb bC,cl,GT.b8 dK fun b hb _=>hw b (s.sub _ (by simp) b hb) fun bC=>(cy s.cq (i:=4) (j:=5) (by decide) rfl rfl) b bC hb,s,f0,f1,f2⟩,?_⟩⟩
    have e:=(List.cons.inj hc).1
    show [R x.outer.length r.outer.1,R x.out.length r.out.1,R x.aT.length r.aT.1,R x.U.length r.U.1,R y.length q.1,aa x.aB,aa x.aX,R x.tables.length r.tables.1,aa x.owned]=[R x.outer.length r.outer.1,R x.out.length r.out.1,R x.aT.length r.aT.1,R x.U.length r.U.1,R x.outs.length r.outs.1,aa x.aB,aa x.aX,R x.tables.length r.tables.1,aa x.owned]
    rw [e]
theorem abH {xs:List aO} {p:aC aO} {F:au} (o:ad w0 M u N F xs p) {k:Nat} (hk:k<xs.length):
    ∃
      H:au,ad w0 M u N H (el xs k).tables (p.2 k).tables/\(∀b,H b->F b)/\∀(bI:World) (aA:au) (y:List bQ) (q:GT.Ptr (List bQ)),(∀b,N b->¬H b->aA b/\bI.heap[b]? =u.heap[b]?)->ad w0 M bI aA H y q->GT.cells y q=GT.cells (el xs k).tables (p.2 k).tables->
      ∃cw,ad w0 M bI aA F (xs.set k {el xs k with tables:=y}) (p.1,cw):=
  o.focus hk (fun x=>x.tables) (fun r=>r.tables) (fun x y=>{x with tables:=y}) (fun r q=>{r with tables:=q}) fun G u x r h=>by
    obtain⟨cH,cE,cT,c1,eC,eQ,dx,cm,a8,b4,cB,dK,s,f0,f1,f2⟩:=h
    refine⟨eQ,dK,s.sub _ (by simp),fun bI y q cl hw hc=>⟨⟨cH,cE,cT,c1,eC,eQ,GT.b8 dx fun b hb _=>hw b (s.sub _ (by simp) b hb) fun bC=>(cy s.cq (i:=0) (j:=5) (by decide) rfl rfl) b hb bC,GT.b8 cm fun b hb _=>hw b (s.sub _ (by simp) b hb) fun bC=>(cy s.cq (i:=1) (j:=5) (by decide) rfl rfl) b hb bC,GT.b8 a8 fun b hb _=>hw b (s.sub _ (by simp) b hb) fun bC=>(cy s.cq (i:=2) (j:=5) (by decide) rfl rfl) b hb bC,GT.b8 b4 fun b hb _=>hw b (s.sub _ (by simp) b hb) fun bC=>(cy s.cq (i:=3) (j:=5) (by decide) rfl rfl) b hb bC,GT.b8 cB fun b hb _=>hw b (s.sub _ (by simp) b hb) fun bC=>(cy s.cq (i:=4) (j:=5) (by decide) rfl rfl) b hb bC,cl,s,f0,f1,f2⟩,?_⟩⟩
    have e:=(List.cons.inj hc).1
    show [R x.outer.length r.outer.1,R x.out.length r.out.1,R x.aT.length r.aT.1,R x.U.length r.U.1,R x.outs.length r.outs.1,aa x.aB,aa x.aX,R y.length q.1,aa x.owned]=[R x.outer.length r.outer.1,R x.out.length r.out.1,R x.aT.length r.aT.1,R x.U.length r.U.1,R x.outs.length r.outs.1,aa x.aB,aa x.aX,R x.tables.length r.tables.1,aa x.owned]
    rw [e]
theorem ain {K:Nat} {G:au} {u:World} {x:aO} {p:fj} {v:Int} (h:GT.own K G u x p) (b5:a_ v):GT.own K G u ({x with aB:=v}:aO) p:=by
  obtain⟨cH,cE,cT,c1,eC,eQ,dx,cm,a8,b4,cB,dK,s,f0,f1,f2⟩:=h
  exact⟨cH,cE,cT,c1,eC,eQ,dx,cm,a8,b4,cB,dK,s,b5,f1,f2⟩
theorem aio {K:Nat} {G:au} {u:World} {x:aO} {p:fj} {v:Int} (h:GT.own K G u x p) (b5:a_ v):GT.own K G u ({x with aX:=v}:aO) p:=by
  obtain⟨cH,cE,cT,c1,eC,eQ,dx,cm,a8,b4,cB,dK,s,f0,f1,f2⟩:=h
  exact⟨cH,cE,cT,c1,eC,eQ,dx,cm,a8,b4,cB,dK,s,f0,b5,f2⟩
theorem Mb {K:Nat} {G:au} {u:World} {x:aO} {p:fj} {v:Int} (h:GT.own K G u x p) (b5:a_ v):GT.own K G u ({x with owned:=v}:aO) p:=by
  obtain⟨cH,cE,cT,c1,eC,eQ,dx,cm,a8,b4,cB,dK,s,f0,f1,f2⟩:=h
  exact⟨cH,cE,cT,c1,eC,eQ,dx,cm,a8,b4,cB,dK,s,f0,f1,b5⟩
theorem Z_ {x y:ah} {p q:cb} (h0:GT.cells x.mem p.mem=GT.cells y.mem q.mem) (h1:GT.cells x.I p.I=GT.cells y.I q.I) (an:GT.cells x.buf p.buf=GT.cells y.buf q.buf) (aF:GT.cells x.ag p.ag=GT.cells y.ag q.ag):GT.cells x p=GT.cells y q:=by
  show [R x.mem.length p.mem.1,R x.I.length p.I.1,R x.buf.length p.buf.1,R x.ag.length p.ag.1]=[R y.mem.length q.mem.1,R y.I.length q.I.1,R y.buf.length q.buf.1,R y.ag.length q.ag.1]
  rw [(show R x.mem.length p.mem.1=R y.mem.length q.mem.1 from(List.cons.inj h0).1),(show R x.I.length p.I.1=R y.I.length q.I.1 from(List.cons.inj h1).1),(show R x.buf.length p.buf.1=R y.buf.length q.buf.1 from(List.cons.inj an).1),(show R x.ag.length p.ag.1=R y.ag.length q.ag.1 from(List.cons.inj aF).1)]
end
def n6 {α:Type} [GT α] [aS α] (hd:α->Int->Int) (F:au) (w:World) (p:GT.Ptr α) (x:α) (k:Int) (e:Ending) (w':World):Prop:=
  ∃(y:α) (fq:Int),e= .returned (aa fq)/\bu F w w'/\(∃p',GT.cells y p'=GT.cells x p/\GT.own b7 F w' y p')/\hd y k=fq/\k<=fq/\fq<=k+16*(aS.aW x:Nat)
section
variable {P:Program} {n:Nat} {w0:World} {M:au} {u:World} {N:au} {β:Nat->Nat} {σ:b1} {a:Act} {w:World} {ops:Array Oper} {di:Act->World->Prop} {Q:Exit->Act->World->Prop}
theorem aj.Z7 {α:Type} [GT α] [aS α] {hd:α->Int->Int} {F:au} {x:α} {p:GT.Ptr α} {k:Int} (S:aj P n w0 M u N β σ a w) (o:ad w0 M u N F x p) {i:Nat} {f:FuncId} {eG:List Value} {d:Tmp} (hc:Calls P f eG.toArray w (n6 hd F w p x k)) (hcall:kv P n ops i σ=some (f,eG,d)) (hd':Nat.blt d n=true)
    (K:∀a0 w' aA p' y fq,aj P n w0 M w' aA β ⟨(d,.v (aa fq))::σ.env,σ.aM⟩ a0 w'->(∀b,N b->¬F b->aA b/\w'.heap[b]? =u.heap[b]?)->ad w0 M w' aA F y p'->GT.cells y p'=GT.cells x p->hd y k=fq->k<=fq->fq<=k+16*(aS.aW x:Nat)->di a0 w'):wpOp P ops Q i di a w:=
  S.call hcall hc fun _ w' ⟨y,fq,he,ff,⟨p',bD,bM⟩,h1,an,aF⟩=>⟨_,he,K _ w' _ p' y fq ((S.qE ff o.sub o.dJ).put (vV hd') (fun _ _ e=>by cases e)) (S.bw ff) ⟨bM,fun b hb=> .inl (o.sub b hb),o.dJ⟩ bD h1 an aF⟩
theorem rr {α:Type} [GT α] [aS α] {hd:α->Int->Int} {F bW:au} {x y:α} {p p':GT.Ptr α} {k fq:Int} (S:aj P n w0 F u N β σ a w) (h:hd y k=fq) (h1:k<=fq) (an:fq<=k+16*(aS.aW x:Nat)) (hc:GT.cells y p'=GT.cells x p) (o:ad w0 F u N bW y p') (hs:∀b,bW b->F b):
    n6 hd F w0 p x k (.returned (packed [aa fq])) w:=
  ⟨y,fq,rfl,S.fp,⟨p',hc,GT.fK (GT.b8 o.own (fun b hb _=>(S.sep b (o.sub b hb)).2.1)) (Nat.le_refl _) hs⟩,h,h1,an⟩
end
class ee (α:Type) [GT α] [aS α] where
  B:Nat
  jn:∀{F:au} {w:World} {x:α} {p:GT.Ptr α},GT.rd b7 F w x p->aS.aW x<=B
instance:ee Int:=⟨0,fun _=>Nat.le_refl _⟩
instance:ee Bool:=⟨0,fun _=>Nat.le_refl _⟩
theorem Nx {α:Type} [GT α] [aS α] {m:Nat}:∀(xs:List α),(∀x,x∈xs->aS.aW x<=m)->(xs.map aS.aW).sum<=xs.length*m
  |
    [],_=>by simp
  |x::r,h=>by
    have:=Nx r fun y hy=>h y (List.mem_cons_of_mem _ hy)
    have:=h x List.mem_cons_self
    simp only [List.map_cons,List.sum_cons,List.length_cons,Nat.add_mul]
    omega
instance {α:Type} [GT α] [aS α] [b:ee α]:ee (List α):=⟨4194304+4194304*b.B,fun {F w x p} h=>by
  have h1:x.length<=4194304:=af.le h
  have an:=Nx (m:=b.B) x fun y hy=>by
    obtain⟨i,hi,rfl⟩:=List.getElem_of_mem hy
    have:=af.el h i hi
    rw [p0 hi] at this
    exact b.jn this
  have aF:x.length*b.B<=4194304*b.B:=Nat.mul_le_mul_right _ h1
  rw [ns]
  unfold g9
  omega⟩
instance:ee aQ:=⟨0,fun _=>Nat.le_refl _⟩
instance:ee aG:=⟨0,fun _=>Nat.le_refl _⟩
instance:ee c_:=⟨0,fun _=>Nat.le_refl _⟩
instance:ee fo:=⟨0,fun _=>Nat.le_refl _⟩
instance:ee df:=⟨0,fun _=>Nat.le_refl _⟩
instance:ee nw:=⟨0,fun _=>Nat.le_refl _⟩
instance:ee pN:=⟨0,fun _=>Nat.le_refl _⟩
instance:ee bQ:=⟨ee.B (List Bool)+ee.B (List aQ),fun {F w x p} h=>by
  have e:=FW x
  have h0:=ee.jn (er.known (d:=x) h)
  have h1:=ee.jn (er.aY (d:=x) h)
  omega⟩
instance:ee ax:=⟨ee.B (List c_)+ee.B (List aQ)+ee.B (List aQ)+ee.B (List Int),fun {F w x p} h=>by
  have e:=y7 x
  have h0:=ee.jn (az.prog (d:=x) h)
  have h1:=ee.jn (az.written (d:=x) h)
  have an:=ee.jn (az.live (d:=x) h)
  have aF:=ee.jn (az.seen (d:=x) h)
  omega⟩
instance:ee aO:=⟨ee.B (List aQ)+ee.B (List (List Int))+ee.B (List Bool)+ee.B (List ax)+ee.B (List Int)+ee.B (List bQ),fun {F w x p} h=>by
  have e:=tW x
  have h0:=ee.jn (aU.outer (d:=x) h)
  have h1:=ee.jn (aU.out (d:=x) h)
  have an:=ee.jn (aU.aT (d:=x) h)
  have aF:=ee.jn (aU.U (d:=x) h)
  have b2:=ee.jn (aU.outs (d:=x) h)
  have bl:=ee.jn (aU.tables (d:=x) h)
  omega⟩
instance:ee cP:=⟨ee.B (List (List Int))+ee.B (List ax)+ee.B (List Int),fun {F w x p} h=>by
  have e:=aj1 x
  have h0:=ee.jn (fE.mem (d:=x) h)
  have h1:=ee.jn (fE.U (d:=x) h)
  have an:=ee.jn (fE.outs (d:=x) h)
  omega⟩
instance:ee ah:=⟨ee.B (List (List Int))+ee.B (List aO)+ee.B (List aG)+ee.B (List aG),fun {F w x p} h=>by
  have e:=Cs x
  have h0:=ee.jn (bz.mem (d:=x) h)
  have h1:=ee.jn (bz.I (d:=x) h)
  have an:=ee.jn (bz.buf (d:=x) h)
  have aF:=ee.jn (bz.ag (d:=x) h)
  omega⟩
end Go.Proofs.YtjlocpdfcanlhaaGreat
namespace Go.Proofs.YtjlocpdfcanlhaaGreat
open Go
set_option linter.unusedSimpArgs false
def l8.c9 (p:l8) (a w:Nat):l8:=⟨p.nil,p.b,bif p.cap==a then p.off else p.off+a*w,p.cap-a,p.rE⟩
section
variable {P:Program} {u:World} {N:au} {α:Type} [GT α] {xs:List α} {p:GT.Ptr (List α)}
theorem C2 {i y:Nat} (h:i<=y) (code:BoundsCode) (w:World):(Instr.sliceBound (aa i) y code).run P w= .ok i w:=by
  unfold Instr.sliceBound
  have:0<=(i:Int)/\(i:Int)<=y:=⟨by omega,by omega⟩
  simp only [asIntOf,Sem.run_bind,Sem.run_pure,Result.andThen_ok,this,and_self,if_true,Int.toNat_natCast]
theorem XP {lo hi:Option Value} {a b n c:Nat} (yi:lo=none/\a=0\/lo=some (aa a)) (D4:hi=none/\b=n\/hi=some (aa b)) (ka:a<=b) (hb:b<=n) (hc:n<=c) (w:World):
    (Instr.sliceBounds true n c lo hi none).run P w= .ok (a,b,c) w:=by
  unfold Instr.sliceBounds
  rcases yi with⟨rfl,rfl⟩|rfl<;>rcases D4 with⟨rfl,rfl⟩|rfl
  · simp [Sem.run_bind,Sem.run_pure]
  · simp [Sem.run_bind,Sem.run_pure,C2 (show b<=c by omega)]
  · simp [Sem.run_bind,Sem.run_pure,C2 ka]
  · simp [Sem.run_bind,Sem.run_pure,C2 (show b<=c by omega),C2 ka]
theorem GV {K:Nat} (h:GT.rd K N u xs p) {t e:TypeId} {lo hi:Option Value} {a b l:Nat} (hl:l=xs.length) (yi:lo=none/\a=0\/lo=some (aa a)) (D4:hi=none/\b=xs.length\/hi=some (aa b)) (ka:a<=b) (hb:b<=xs.length) (bs:P.underlying t=some (.slice e)) (he:ji P e=some (GT.width α)):
    g2 P u N (.iV (Instr.sliceAt t (R l p.1) lo hi none)) (R (b-a) (p.1.c9 a (GT.width α))):=fun w _=>by
  subst hl
  have vE:=af.cap h
  show(Instr.sliceAt t (.slice p.1.addr xs.length p.1.cap) lo hi none).run P w=_
  unfold Instr.sliceAt
  simp only [Sem.run_bind,run_underlying bs,Result.andThen_ok]
  unfold Instr.slice
  simp only [Sem.run_bind,run_underlying bs,Result.andThen_ok,XP yi D4 ka hb vE,yU he,Sem.run_pure]
  congr 2
  unfold l8.c9 l8.addr
  by_cases Jg:p.1.cap=a
  · simp [Jg]
  · have ct:(p.1.cap==a)=false:=by simpa using Jg
    simp only [Jg,if_false,ct,cond_false]
    cases cX:p.1.nil with
    |false=>simp [Addr.add_mid]
    |true=>
      have:xs.length=0:=by
        rcases Nat.eq_zero_or_pos xs.length with z|z
        · exact z
        · have:=(af.at_ h z).1;rw [cX] at this;cases this
      have ay:a=0:=by omega
      subst ay
      cases p.1.rE<;>simp [Addr.add]
theorem M4 {K:Nat} (h:GT.rd K N u xs p) {a b:Nat} (ka:a<=b) (hb:b<=xs.length):GT.rd K N u ((xs.drop a).take (b-a)) ((p.1.c9 a (GT.width α),fun i=>p.2 (a+i)):aC α):=by
  have hlen:((xs.drop a).take (b-a)).length=b-a:=by simp;omega
  have h_:∀i,i<b-a->el ((xs.drop a).take (b-a)) i=el xs (a+i):=fun i hi=>by
    unfold el
    rw [List.getD_eq_getElem?_getD,List.getD_eq_getElem?_getD,List.getElem?_take_of_lt hi,List.getElem?_drop]
  have vE:=af.cap h
  have adY:=af.at_ h
  refine⟨by have:=af.le h;omega,by show _<=p.1.cap-a;omega,fun z=>?_,fun i hi=>?_,fun i hi=>?_⟩
  · exact adY (by omega)
  · rw [hlen] at hi
    rw [h_ i hi]
    have ct:(p.1.cap==a)=false:=by simp;omega
    have:=af.cell h (a+i) (by omega)
    show kQ u p.1.b ((bif p.1.cap==a then p.1.off else p.1.off+a*GT.width α)+i*GT.width α) _
    rw [ct]
    simp only [cond_false]
    rw [Nat.add_assoc,←Nat.add_mul]
    exact this
  · rw [hlen] at hi
    rw [h_ i hi]
    exact af.el h (a+i) (by omega)
end
end Go.Proofs.YtjlocpdfcanlhaaGreat
namespace Go.Proofs.YtjlocpdfcanlhaaGreat
open Go
set_option linter.unusedVariables false
theorem nZ {F H cI Fy:au} {l:List au} (s:nv F l) {i:Nat} (hi:l[i]? =some H) (h1:∀b,cI b->H b\/Fy b) (hd:J F Fy):nv (Or F cI) (l.set i cI):=by
  have bC:∀b,H b->F b:=s.sub H (List.mem_of_getElem? hi)
  obtain⟨So,Sn⟩:=List.getElem?_eq_some_iff.1 hi
  refine⟨fun G cM b hb=>?_,?_⟩
  · rcases List.mem_or_eq_of_mem_set cM with h|rfl
    · exact Or.inl (s.sub G h b hb)
    · exact Or.inr hb
  · have key:∀j (b0:j<l.length),j≠i->J (l[j]) cI:=fun j b0 kE b hb eN=>by
      rcases h1 b eN with h|h
      · rcases Nat.lt_or_gt_of_ne kE with eP|aeb
        · exact List.pairwise_iff_getElem.1 s.cq j i b0 So eP b hb (Sn▸h)
        · exact List.pairwise_iff_getElem.1 s.cq i j So b0 aeb b (Sn▸h) hb
      · exact hd b (s.sub _ (List.getElem_mem b0) b hb) h
    rw [List.pairwise_iff_getElem]
    intro a c ay hc adR
    rw [List.length_set] at ay hc
    rw [List.getElem_set,List.getElem_set]
    by_cases ct:i=a
    · rw [if_pos ct,if_neg (by omega)]
      exact(key c hc (by omega)).symm
    · rw [if_neg ct]
      by_cases cA:i=c
      · rw [if_pos cA];exact key a ay (fun h=>ct h.symm)
      · rw [if_neg cA];exact List.pairwise_iff_getElem.1 s.cq a c ay hc adR
section
variable {w0:World} {M:au} {u:World} {N:au}
theorem ad.xL {α β:Type} [GT α] [GT β] {xs:List α} {p:aC α} {F:au} (o:ad w0 M u N F xs p) {k:Nat} (hk:k<xs.length) (get:α->β) (ni:GT.Ptr α->GT.Ptr β) (set:α->β->α) (pB:GT.Ptr α->GT.Ptr β->GT.Ptr α)
    (Ay:∀(G:au) (u:World) (x:α) (r:GT.Ptr α),GT.own b7 G u x r->∃H:au,GT.own b7 H u (get x) (ni r)/\(∀b,H b->G b)/\∀(bI:World) (y:β) (q:GT.Ptr β) (cI Fy:au),GT.own b7 cI bI y q->(∀b,cI b->H b\/Fy b)->J G Fy->(∀b,G b->¬H b->bI.heap[b]? =u.heap[b]?)->GT.cells y q=GT.cells (get x) (ni r)->GT.own b7 (Or G cI) bI (set x y) (pB r q)/\GT.cells (set x y) (pB r q)=GT.cells x r):
    ∃H:au,ad w0 M u N H (get (el xs k)) (ni (p.2 k))/\(∀b,H b->F b)/\∀(bI:World) (aA:au) (y:β) (q:GT.Ptr β) (cI Fy:au),(∀b,N b->¬H b->aA b/\bI.heap[b]? =u.heap[b]?)->ad w0 M bI aA cI y q->(∀b,cI b->H b\/Fy b)->J F Fy->GT.cells y q=GT.cells (get (el xs k)) (ni (p.2 k))->
      (∀b,H b->aA b)->ad w0 M bI aA (Or F cI) (xs.set k (set (el xs k) y)) ((p.1,fun i=>if i=k then pB (p.2 k) q else p.2 i):aC α)/\∀j,GT.cells (el (xs.set k (set (el xs k) y)) j) ((fun i=>if i=k then pB (p.2 k) q else p.2 i) j)=GT.cells (el xs j) (p.2 j):=by
  have bM:g1 b7 F u xs p:=o.own
  obtain⟨G,cm,a8,b4⟩:=bM.el
  obtain⟨H,h1,an,aF⟩:=Ay (G k) u (el xs k) (p.2 k) (cm k hk)
  have u2:∀b,H b->F b:=fun b hb=>(a8 k hk b (an b hb)).1
  refine⟨H,⟨h1,fun b hb=>o.sub b (u2 b hb),fun b hb=>o.dJ b (u2 b hb)⟩,u2,fun bI aA y q cI Fy up tJ hs hd hc ac9=>?_⟩
  have keep:∀b,F b->¬H b->bI.heap[b]? =u.heap[b]? :=fun b hb cX=>(up b (o.sub b hb) cX).2
  have vE:=bM.cap
  have qa:p.1.nil=false:=bM.Bm (by omega)
  have yq:¬H p.1.b:=fun hb=>(a8 k hk _ (an _ hb)).2 rfl
  have yp:F p.1.b:=(bM.row qa).1
  obtain⟨hv,nx⟩:=aF bI y q cI Fy tJ.own hs (fun b hb bf=>hd b (a8 k hk b hb).1 bf) (fun b hb cX=>keep b (a8 k hk b hb).1 cX) hc
  refine⟨⟨?_,?_,fun b hb=>hb.elim (o.dJ b) (tJ.dJ b)⟩,fun j=>?_⟩
  rotate_right
  · by_cases e:j=k
    · subst e
      rw [dS hk]
      simp only [if_true]
      exact nx
    · rw [uO e]
      simp only [if_neg e]
  · show g1 b7 (Or F cI) bI _ _
    refine⟨by rw [List.length_set];exact bM.le,by rw [List.length_set];exact bM.cap,bM.o5,bM.null,fun z=>⟨Or.inl (bM.row z).1,?_⟩,fun i hi=>?_,fun i=>if i=k then Or (G k) cI else G i,fun i hi=>?_,?_,?_⟩
    · rw [keep _ yp yq];exact(bM.row z).2
    · rw [List.length_set] at hi
      have ot:kQ bI p.1.b (p.1.off+i*GT.width α) (GT.cells (el xs i) (p.2 i)):=(bM.cell i hi).uw (keep _ yp yq)
      by_cases e:i=k
      · subst e
        rw [dS hi]
        simp only [if_true]
        rw [nx];exact ot
      · rw [uO e]
        simp only [if_neg e]
        exact ot
    · rw [List.length_set] at hi
      by_cases e:i=k
      · subst e
        rw [dS hi]
        simp only [if_true]
        exact hv
      · rw [uO e]
        simp only [if_neg e]
        exact GT.b8 (cm i hi) fun b hb _=>keep b (a8 i hi b hb).1 fun bC=>b4 i k hi hk e b hb (an b bC)
    · intro i hi;rw [List.length_set] at hi
      intro b hb
      by_cases e:i=k
      · subst e
        simp only [if_true] at hb
        rcases hb with hb|hb
        · exact⟨Or.inl (a8 i hi b hb).1,(a8 i hi b hb).2⟩
        · refine⟨Or.inr hb,fun cA=>?_⟩
          rcases hs b hb with h|h
          · exact yq (cA▸h)
          · exact hd _ yp (cA▸h)
      · simp only [if_neg e] at hb
        exact⟨Or.inl (a8 i hi b hb).1,(a8 i hi b hb).2⟩
    · have key:∀i,i<xs.length->i≠k->J (G i) (Or (G k) cI):=fun i hi kE b hb eN=>by
        rcases eN with eN|eN
        · exact b4 i k hi hk kE b hb eN
        · rcases hs b eN with h|h
          · exact b4 i k hi hk kE b hb (an b h)
          · exact hd b (a8 i hi b hb).1 h
      intro i j hi b0 r6;rw [List.length_set] at hi b0
      by_cases ct:i=k
      · by_cases cA:j=k
        · exact absurd (ct.trans cA.symm) r6
        · simp only [if_pos ct,if_neg cA];exact(key j b0 cA).symm
      · by_cases cA:j=k
        · simp only [if_neg ct,if_pos cA];exact key i hi ct
        · simp only [if_neg ct,if_neg cA];exact b4 i j hi b0 r6
  · intro b hb
    rcases hb with hb|hb
    · by_cases bC:H b
      · exact ac9 b bC
      · exact(up b (o.sub b hb) bC).1
    · exact tJ.sub b hb
theorem ad.xK {α β:Type} [GT α] [GT β] {xs:List α} {p:aC α} {F:au} (o:ad w0 M u N F xs p) {k:Nat} (hk:k<xs.length) (get:α->β) (ni:GT.Ptr α->GT.Ptr β) (set:α->β->α) (pB:GT.Ptr α->GT.Ptr β->GT.Ptr α)
    (Ay:∀(G:au) (u:World) (x:α) (r:GT.Ptr α),GT.own b7 G u x r->∃H:au,GT.own b7 H u (get x) (ni r)/\(∀b,H b->G b)/\∀(bI:World) (y:β) (q:GT.Ptr β) (cI Fy:au),GT.own b7 cI bI y q->(∀b,cI b->H b\/Fy b)->J G Fy->(∀b,G b->¬H b->bI.heap[b]? =u.heap[b]?)->GT.cells y q=GT.cells (get x) (ni r)->GT.own b7 (Or G cI) bI (set x y) (pB r q)/\GT.cells (set x y) (pB r q)=GT.cells x r):
    ∃H:au,ad w0 M u N H (get (el xs k)) (ni (p.2 k))/\(∀b,H b->F b)/\∀(bI:World) (aA:au) (y:β) (q:GT.Ptr β) (cI Fy:au),(∀b,N b->¬H b->aA b/\bI.heap[b]? =u.heap[b]?)->ad w0 M bI aA cI y q->(∀b,cI b->H b\/Fy b)->J F Fy->GT.cells y q=GT.cells (get (el xs k)) (ni (p.2 k))->
      (∀b,H b->aA b)->∃cw,ad w0 M bI aA (Or F cI) (xs.set k (set (el xs k) y)) (p.1,cw)/\∀j,GT.cells (el (xs.set k (set (el xs k) y)) j) (cw j)=GT.cells (el xs j) (p.2 j):=by
  obtain⟨H,h1,an,aF⟩:=o.xL hk get ni set pB Ay
  exact⟨H,h1,an,fun bI aA y q cI Fy a b c d e f=>⟨_,aF bI aA y q cI Fy a b c d e f⟩⟩
theorem uR {β:Type} [GT β] {xs:List β} {p:aC β} {F:au} (o:ad w0 M u N F xs p) {k:Nat} (hk:k<xs.length):
    ∃
      H:au,ad w0 M u N H (el xs k) (p.2 k)/\(∀b,H b->F b)/\∀(bI:World) (aA:au) (y:β) (q:GT.Ptr (β)) (cI Fy:au),(∀b,N b->¬H b->aA b/\bI.heap[b]? =u.heap[b]?)->ad w0 M bI aA cI y q->(∀b,cI b->H b\/Fy b)->J F Fy->GT.cells y q=GT.cells (el xs k) (p.2 k)->(∀b,H b->aA b)->
      ∃cw,ad w0 M bI aA (Or F cI) (xs.set k y) (p.1,cw)/\∀j,GT.cells (el (xs.set k y) j) (cw j)=GT.cells (el xs j) (p.2 j):=
  o.xK hk (fun x=>x) (fun r=>r) (fun _ y=>y) (fun _ q=>q) fun G u x r h=>⟨G,h,fun _ z=>z,fun _ _ _ _ _ cl _ _ _ hc=>⟨GT.fK cl (Nat.le_refl _) (fun _ z=>Or.inr z),hc⟩⟩
theorem Ig {xs:List aO} {p:aC aO} {F:au} (o:ad w0 M u N F xs p) {k:Nat} (hk:k<xs.length):
    ∃
      H:au,ad w0 M u N H (el xs k).outer (p.2 k).outer/\(∀b,H b->F b)/\∀(bI:World) (aA:au) (y:List aQ) (q:GT.Ptr (List aQ)) (cI Fy:au),(∀b,N b->¬H b->aA b/\bI.heap[b]? =u.heap[b]?)->ad w0 M bI aA cI y q->(∀b,cI b->H b\/Fy b)->J F Fy->GT.cells y q=GT.cells (el xs k).outer (p.2 k).outer->(∀b,H b->aA b)->
      ∃cw,ad w0 M bI aA (Or F cI) (xs.set k {el xs k with outer:=y}) (p.1,cw)/\∀j,GT.cells (el (xs.set k {el xs k with outer:=y}) j) (cw j)=GT.cells (el xs j) (p.2 j):=
  o.xK hk (fun x=>x.outer) (fun r=>r.outer) (fun x y=>{x with outer:=y}) (fun r q=>{r with outer:=q}) fun G u x r h=>by
    obtain⟨cH,cE,cT,c1,eC,eQ,dx,cm,a8,b4,cB,dK,s,f0,f1,f2⟩:=h
    refine⟨cH,dx,s.sub _ (by simp),fun bI y q cI Fy cl hs hd hw hc=>⟨⟨cI,cE,cT,c1,eC,eQ,cl,GT.b8 cm fun b hb _=>hw b (s.sub _ (by simp) b hb) fun bC=>(cy s.cq (i:=0) (j:=1) (by decide) rfl rfl) b bC hb,GT.b8 a8 fun b hb _=>hw b (s.sub _ (by simp) b hb) fun bC=>(cy s.cq (i:=0) (j:=2) (by decide) rfl rfl) b bC hb,GT.b8 b4 fun b hb _=>hw b (s.sub _ (by simp) b hb) fun bC=>(cy s.cq (i:=0) (j:=3) (by decide) rfl rfl) b bC hb,GT.b8 cB fun b hb _=>hw b (s.sub _ (by simp) b hb) fun bC=>(cy s.cq (i:=0) (j:=4) (by decide) rfl rfl) b bC hb,GT.b8 dK fun b hb _=>hw b (s.sub _ (by simp) b hb) fun bC=>(cy s.cq (i:=0) (j:=5) (by decide) rfl rfl) b bC hb,nZ s (i:=0) rfl hs hd,f0,f1,f2⟩,?_⟩⟩
    have e:=(List.cons.inj hc).1
    show [R y.length q.1,R x.out.length r.out.1,R x.aT.length r.aT.1,R x.U.length r.U.1,R x.outs.length r.outs.1,aa x.aB,aa x.aX,R x.tables.length r.tables.1,aa x.owned]=[R x.outer.length r.outer.1,R x.out.length r.out.1,R x.aT.length r.aT.1,R x.U.length r.U.1,R x.outs.length r.outs.1,aa x.aB,aa x.aX,R x.tables.length r.tables.1,aa x.owned]
    rw [e]
theorem Q1 {xs:List aO} {p:aC aO} {F:au} (o:ad w0 M u N F xs p) {k:Nat} (hk:k<xs.length):
    ∃
      H:au,ad w0 M u N H (el xs k).out (p.2 k).out/\(∀b,H b->F b)/\∀(bI:World) (aA:au) (y:List (List Int)) (q:GT.Ptr (List (List Int))) (cI Fy:au),(∀b,N b->¬H b->aA b/\bI.heap[b]? =u.heap[b]?)->ad w0 M bI aA cI y q->(∀b,cI b->H b\/Fy b)->J F Fy->GT.cells y q=GT.cells (el xs k).out (p.2 k).out->(∀b,H b->aA b)->
      ∃cw,ad w0 M bI aA (Or F cI) (xs.set k {el xs k with out:=y}) (p.1,cw)/\∀j,GT.cells (el (xs.set k {el xs k with out:=y}) j) (cw j)=GT.cells (el xs j) (p.2 j):=
  o.xK hk (fun x=>x.out) (fun r=>r.out) (fun x y=>{x with out:=y}) (fun r q=>{r with out:=q}) fun G u x r h=>by
    obtain⟨cH,cE,cT,c1,eC,eQ,dx,cm,a8,b4,cB,dK,s,f0,f1,f2⟩:=h
    refine⟨cE,cm,s.sub _ (by simp),fun bI y q cI Fy cl hs hd hw hc=>⟨⟨cH,cI,cT,c1,eC,eQ,GT.b8 dx fun b hb _=>hw b (s.sub _ (by simp) b hb) fun bC=>(cy s.cq (i:=0) (j:=1) (by decide) rfl rfl) b hb bC,cl,GT.b8 a8 fun b hb _=>hw b (s.sub _ (by simp) b hb) fun bC=>(cy s.cq (i:=1) (j:=2) (by decide) rfl rfl) b bC hb,GT.b8 b4 fun b hb _=>hw b (s.sub _ (by simp) b hb) fun bC=>(cy s.cq (i:=1) (j:=3) (by decide) rfl rfl) b bC hb,GT.b8 cB fun b hb _=>hw b (s.sub _ (by simp) b hb) fun bC=>(cy s.cq (i:=1) (j:=4) (by decide) rfl rfl) b bC hb,GT.b8 dK fun b hb _=>hw b (s.sub _ (by simp) b hb) fun bC=>(cy s.cq (i:=1) (j:=5) (by decide) rfl rfl) b bC hb,nZ s (i:=1) rfl hs hd,f0,f1,f2⟩,?_⟩⟩
    have e:=(List.cons.inj hc).1
    show [R x.outer.length r.outer.1,R y.length q.1,R x.aT.length r.aT.1,R x.U.length r.U.1,R x.outs.length r.outs.1,aa x.aB,aa x.aX,R x.tables.length r.tables.1,aa x.owned]=[R x.outer.length r.outer.1,R x.out.length r.out.1,R x.aT.length r.aT.1,R x.U.length r.U.1,R x.outs.length r.outs.1,aa x.aB,aa x.aX,R x.tables.length r.tables.1,aa x.owned]
    rw [e]
theorem Q0 {xs:List aO} {p:aC aO} {F:au} (o:ad w0 M u N F xs p) {k:Nat} (hk:k<xs.length):
    ∃
      H:au,ad w0 M u N H (el xs k).aT (p.2 k).aT/\(∀b,H b->F b)/\∀(bI:World) (aA:au) (y:List Bool) (q:GT.Ptr (List Bool)) (cI Fy:au),(∀b,N b->¬H b->aA b/\bI.heap[b]? =u.heap[b]?)->ad w0 M bI aA cI y q->(∀b,cI b->H b\/Fy b)->J F Fy->GT.cells y q=GT.cells (el xs k).aT (p.2 k).aT->(∀b,H b->aA b)->
      ∃cw,ad w0 M bI aA (Or F cI) (xs.set k {el xs k with aT:=y}) (p.1,cw)/\∀j,GT.cells (el (xs.set k {el xs k with aT:=y}) j) (cw j)=GT.cells (el xs j) (p.2 j):=
  o.xK hk (fun x=>x.aT) (fun r=>r.aT) (fun x y=>{x with aT:=y}) (fun r q=>{r with aT:=q}) fun G u x r h=>by
    obtain⟨cH,cE,cT,c1,eC,eQ,dx,cm,a8,b4,cB,dK,s,f0,f1,f2⟩:=h
    refine⟨cT,a8,s.sub _ (by simp),fun bI y q cI Fy cl hs hd hw hc=>⟨⟨cH,cE,cI,c1,eC,eQ,GT.b8 dx fun b hb _=>hw b (s.sub _ (by simp) b hb) fun bC=>(cy s.cq (i:=0) (j:=2) (by decide) rfl rfl) b hb bC,GT.b8 cm fun b hb _=>hw b (s.sub _ (by simp) b hb) fun bC=>(cy s.cq (i:=1) (j:=2) (by decide) rfl rfl) b hb bC,cl,GT.b8 b4 fun b hb _=>hw b (s.sub _ (by simp) b hb) fun bC=>(cy s.cq (i:=2) (j:=3) (by decide) rfl rfl) b bC hb,GT.b8 cB fun b hb _=>hw b (s.sub _ (by simp) b hb) fun bC=>(cy s.cq (i:=2) (j:=4) (by decide) rfl rfl) b bC hb,GT.b8 dK fun b hb _=>hw b (s.sub _ (by simp) b hb) fun bC=>(cy s.cq (i:=2) (j:=5) (by decide) rfl rfl) b bC hb,nZ s (i:=2) rfl hs hd,f0,f1,f2⟩,?_⟩⟩
    have e:=(List.cons.inj hc).1
    show [R x.outer.length r.outer.1,R x.out.length r.out.1,R y.length q.1,R x.U.length r.U.1,R x.outs.length r.outs.1,aa x.aB,aa x.aX,R x.tables.length r.tables.1,aa x.owned]=[R x.outer.length r.outer.1,R x.out.length r.out.1,R x.aT.length r.aT.1,R x.U.length r.U.1,R x.outs.length r.outs.1,aa x.aB,aa x.aX,R x.tables.length r.tables.1,aa x.owned]
    rw [e]
theorem o_ {xs:List aO} {p:aC aO} {F:au} (o:ad w0 M u N F xs p) {k:Nat} (hk:k<xs.length):
    ∃
      H:au,ad w0 M u N H (el xs k).U (p.2 k).U/\(∀b,H b->F b)/\∀(bI:World) (aA:au) (y:List ax) (q:GT.Ptr (List ax)) (cI Fy:au),(∀b,N b->¬H b->aA b/\bI.heap[b]? =u.heap[b]?)->ad w0 M bI aA cI y q->(∀b,cI b->H b\/Fy b)->J F Fy->GT.cells y q=GT.cells (el xs k).U (p.2 k).U->(∀b,H b->aA b)->
      ∃cw,ad w0 M bI aA (Or F cI) (xs.set k {el xs k with U:=y}) (p.1,cw)/\∀j,GT.cells (el (xs.set k {el xs k with U:=y}) j) (cw j)=GT.cells (el xs j) (p.2 j):=
  o.xK hk (fun x=>x.U) (fun r=>r.U) (fun x y=>{x with U:=y}) (fun r q=>{r with U:=q}) fun G u x r h=>by
    obtain⟨cH,cE,cT,c1,eC,eQ,dx,cm,a8,b4,cB,dK,s,f0,f1,f2⟩:=h
    refine⟨c1,b4,s.sub _ (by simp),fun bI y q cI Fy cl hs hd hw hc=>⟨⟨cH,cE,cT,cI,eC,eQ,GT.b8 dx fun b hb _=>hw b (s.sub _ (by simp) b hb) fun bC=>(cy s.cq (i:=0) (j:=3) (by decide) rfl rfl) b hb bC,GT.b8 cm fun b hb _=>hw b (s.sub _ (by simp) b hb) fun bC=>(cy s.cq (i:=1) (j:=3) (by decide) rfl rfl) b hb bC,GT.b8 a8 fun b hb _=>hw b (s.sub _ (by simp) b hb) fun bC=>(cy s.cq (i:=2) (j:=3) (by decide) rfl rfl) b hb bC,cl,GT.b8 cB fun b hb _=>hw b (s.sub _ (by simp) b hb) fun bC=>(cy s.cq (i:=3) (j:=4) (by decide) rfl rfl) b bC hb,GT.b8 dK fun b hb _=>hw b (s.sub _ (by simp) b hb) fun bC=>(cy s.cq (i:=3) (j:=5) (by decide) rfl rfl) b bC hb,nZ s (i:=3) rfl hs hd,f0,f1,f2⟩,?_⟩⟩
    have e:=(List.cons.inj hc).1
    show [R x.outer.length r.outer.1,R x.out.length r.out.1,R x.aT.length r.aT.1,R y.length q.1,R x.outs.length r.outs.1,aa x.aB,aa x.aX,R x.tables.length r.tables.1,aa x.owned]=[R x.outer.length r.outer.1,R x.out.length r.out.1,R x.aT.length r.aT.1,R x.U.length r.U.1,R x.outs.length r.outs.1,aa x.aB,aa x.aX,R x.tables.length r.tables.1,aa x.owned]
    rw [e]
theorem aic {K:Nat} {G Fy:au} {u:World} {x:aO} {p:fj} {l:List ax} {q:GT.Ptr (List ax)} (h:GT.own K G u x p) (hl:GT.own K Fy u l q) (hd:J G Fy):GT.own K (Or G Fy) u ({x with U:=l}:aO) {p with U:=q}:=by
  obtain⟨cH,cE,cT,c1,eC,eQ,dx,cm,a8,b4,cB,dK,s,f0,f1,f2⟩:=h
  exact⟨cH,cE,cT,Fy,eC,eQ,dx,cm,a8,hl,cB,dK,nZ s (i:=3) rfl (fun _ z=> .inr z) hd,f0,f1,f2⟩
theorem Q2 {xs:List aO} {p:aC aO} {F:au} (o:ad w0 M u N F xs p) {k:Nat} (hk:k<xs.length):
    ∃
      H:au,ad w0 M u N H (el xs k).tables (p.2 k).tables/\(∀b,H b->F b)/\∀(bI:World) (aA:au) (y:List bQ) (q:GT.Ptr (List bQ)) (cI Fy:au),(∀b,N b->¬H b->aA b/\bI.heap[b]? =u.heap[b]?)->ad w0 M bI aA cI y q->(∀b,cI b->H b\/Fy b)->J F Fy->GT.cells y q=GT.cells (el xs k).tables (p.2 k).tables->(∀b,H b->aA b)->
      ∃cw,ad w0 M bI aA (Or F cI) (xs.set k {el xs k with tables:=y}) (p.1,cw)/\∀j,GT.cells (el (xs.set k {el xs k with tables:=y}) j) (cw j)=GT.cells (el xs j) (p.2 j):=
  o.xK hk (fun x=>x.tables) (fun r=>r.tables) (fun x y=>{x with tables:=y}) (fun r q=>{r with tables:=q}) fun G u x r h=>by
    obtain⟨cH,cE,cT,c1,eC,eQ,dx,cm,a8,b4,cB,dK,s,f0,f1,f2⟩:=h
    refine⟨eQ,dK,s.sub _ (by simp),fun bI y q cI Fy cl hs hd hw hc=>⟨⟨cH,cE,cT,c1,eC,cI,GT.b8 dx fun b hb _=>hw b (s.sub _ (by simp) b hb) fun bC=>(cy s.cq (i:=0) (j:=5) (by decide) rfl rfl) b hb bC,GT.b8 cm fun b hb _=>hw b (s.sub _ (by simp) b hb) fun bC=>(cy s.cq (i:=1) (j:=5) (by decide) rfl rfl) b hb bC,GT.b8 a8 fun b hb _=>hw b (s.sub _ (by simp) b hb) fun bC=>(cy s.cq (i:=2) (j:=5) (by decide) rfl rfl) b hb bC,GT.b8 b4 fun b hb _=>hw b (s.sub _ (by simp) b hb) fun bC=>(cy s.cq (i:=3) (j:=5) (by decide) rfl rfl) b hb bC,GT.b8 cB fun b hb _=>hw b (s.sub _ (by simp) b hb) fun bC=>(cy s.cq (i:=4) (j:=5) (by decide) rfl rfl) b hb bC,cl,nZ s (i:=5) rfl hs hd,f0,f1,f2⟩,?_⟩⟩
    have e:=(List.cons.inj hc).1
    show [R x.outer.length r.outer.1,R x.out.length r.out.1,R x.aT.length r.aT.1,R x.U.length r.U.1,R x.outs.length r.outs.1,aa x.aB,aa x.aX,R y.length q.1,aa x.owned]=[R x.outer.length r.outer.1,R x.out.length r.out.1,R x.aT.length r.aT.1,R x.U.length r.U.1,R x.outs.length r.outs.1,aa x.aB,aa x.aX,R x.tables.length r.tables.1,aa x.owned]
    rw [e]
theorem aib {K:Nat} {G Fy:au} {u:World} {x:ah} {p:cb} {l:List (List Int)} {q:GT.Ptr (List (List Int))} (h:GT.own K G u x p) (hl:GT.own K Fy u l q) (hd:J G Fy):GT.own K (Or G Fy) u ({x with mem:=l}:ah) {p with mem:=q}:=by
  obtain⟨cH,cE,cT,c1,dx,cm,a8,b4,s⟩:=h
  exact⟨Fy,cE,cT,c1,hl,cm,a8,b4,nZ s (i:=0) rfl (fun _ z=> .inr z) hd⟩
theorem abv {xs:List ah} {p:aC ah} {F:au} (o:ad w0 M u N F xs p) {k:Nat} (hk:k<xs.length):
    ∃
      H:au,ad w0 M u N H (el xs k).I (p.2 k).I/\(∀b,H b->F b)/\∀(bI:World) (aA:au) (y:List aO) (q:GT.Ptr (List aO)) (cI Fy:au),(∀b,N b->¬H b->aA b/\bI.heap[b]? =u.heap[b]?)->ad w0 M bI aA cI y q->(∀b,cI b->H b\/Fy b)->J F Fy->GT.cells y q=GT.cells (el xs k).I (p.2 k).I->(∀b,H b->aA b)->
      ad w0 M bI aA (Or F cI) (xs.set k {el xs k with I:=y}) ((p.1,fun i=>if i=k then({p.2 k with I:=q}:cb) else p.2 i):aC ah):=by
  obtain⟨H,h1,an,aF⟩:=o.xL hk (fun x=>x.I) (fun r=>r.I) (fun x y=>{x with I:=y}) (fun r q=>{r with I:=q}) fun G u x r h=>by
    obtain⟨cH,cE,cT,c1,dx,cm,a8,b4,s⟩:=h
    refine⟨cE,cm,s.sub _ (by simp),fun bI y q cI Fy cl hs hd hw hc=>⟨⟨cH,cI,cT,c1,GT.b8 dx fun b hb _=>hw b (s.sub _ (by simp) b hb) fun bC=>(cy s.cq (i:=0) (j:=1) (by decide) rfl rfl) b hb bC,cl,GT.b8 a8 fun b hb _=>hw b (s.sub _ (by simp) b hb) fun bC=>(cy s.cq (i:=1) (j:=2) (by decide) rfl rfl) b bC hb,GT.b8 b4 fun b hb _=>hw b (s.sub _ (by simp) b hb) fun bC=>(cy s.cq (i:=1) (j:=3) (by decide) rfl rfl) b bC hb,nZ s (i:=1) rfl hs hd⟩,?_⟩⟩
    have e:=(List.cons.inj hc).1
    show [R x.mem.length r.mem.1,R y.length q.1,R x.buf.length r.buf.1,R x.ag.length r.ag.1]=[R x.mem.length r.mem.1,R x.I.length r.I.1,R x.buf.length r.buf.1,R x.ag.length r.ag.1]
    rw [e]
  exact⟨H,h1,an,fun bI aA y q cI Fy a b c d e f=>(aF bI aA y q cI Fy a b c d e f).1⟩
theorem L2 {K:Nat} {G Fy:au} {u:World} {x:ah} {p:cb} {l:List aG} {q:GT.Ptr (List aG)} (h:GT.own K G u x p) (hl:GT.own K Fy u l q) (hd:J G Fy):GT.own K (Or G Fy) u ({x with buf:=l}:ah) {p with buf:=q}:=by
  obtain⟨cH,cE,cT,c1,dx,cm,a8,b4,s⟩:=h
  exact⟨cH,cE,Fy,c1,dx,cm,hl,b4,nZ s (i:=2) rfl (fun _ z=> .inr z) hd⟩
theorem aia {K:Nat} {G Fy:au} {u:World} {x:ah} {p:cb} {l:List aG} {q:GT.Ptr (List aG)} (h:GT.own K G u x p) (hl:GT.own K Fy u l q) (hd:J G Fy):GT.own K (Or G Fy) u ({x with ag:=l}:ah) {p with ag:=q}:=by
  obtain⟨cH,cE,cT,c1,dx,cm,a8,b4,s⟩:=h
  exact⟨cH,cE,cT,Fy,dx,cm,a8,hl,nZ s (i:=3) rfl (fun _ z=> .inr z) hd⟩
end
end Go.Proofs.YtjlocpdfcanlhaaGreat
namespace Go.Proofs.YtjlocpdfcanlhaaGreat
open Go
def j6 (k:bQ) (page:Int):bQ:=
  if(0<=page/\page<k.known.length)/\page<k.aY.length then⟨k.known.set page.toNat false,k.aY.set page.toNat ⟨-1,0⟩⟩ else k
def abe (k:bQ) (n:Nat):bQ:=(List.range n).foldl (fun k (i:Nat)=>j6 k (i:Int)) k
def abd (k:bQ):bQ:=abe k k.known.length
def aa_ (m:aO):aO:={m with tables:=m.tables.map abd}
def amU (h:ah):ah:=⟨h.mem,h.I.map aa_,[],[]⟩
def jz (b:cP):Bool:=b.U.all kz&&h6 b.mem 8&&a3 b.U.length 1 2&&decide (b.outs.length<=40)&&a3 b.aB 0 255
theorem XL {b:cP} (h:jz b=true):1<=b.U.length/\b.U.length<=2/\0<=b.aB/\b.aB<=255:=by
  simp only [jz,Bool.and_eq_true] at h
  have h1:=cU h.1.1.2
  have an:=cU h.2
  omega
def abo (c:fo) (n:Int):Bool:=mS c&&a3 n 0 7&&(jH (sE c.post n) 1==1)
def QT (b:cP) (n:Int):List Int:=lL b.U.length fun i=>abo (el b.U i).aN n
def DC (p n:Int):Int×Bool:=if a3 p 0 255=true/\a3 n 0 7=true then(af7 p (oO 1 n),true) else(p,false)
def ajY (n:Int) (gs:List ax) (g:Int):List ax:=gs.set g.toNat {el gs g.toNat with aB:=(DC (el gs g.toNat).aB n).1}
def aa7 (b:cP) (n:Int):cP×Bool:=
  if jz b=true/\0<=n/\n<=7 then
    (⟨b.mem,(QT b n).foldl (ajY n) b.U,b.outs,if(QT b n).length=0 then(DC b.aB n).1 else b.aB⟩,true)
  else(b,false)
theorem qJ {r n:Int} (h:e8 r n=true):0<=n/\n<=3:=by
  simp only [e8,Bool.and_eq_true] at h
  exact cU h.1.2
def a2 (b:cP) (g:Int):ax×Bool:=if 0<=g/\g<b.U.length then(el b.U g.toNat,true) else(⟨[],0,0,[],[],⟨0,0,false⟩,0,⟨0,0,false,0⟩,false,[]⟩,false)
def cr (a:Int):Int:=if a<0 then-1 else Int.tdiv a 4
def dr (a:Int):Int:=if a<0 then-1 else Int.tmod a 4
theorem rF {a:Int} (h:a_ a):a_ (cr a):=by
  unfold cr
  split
  · exact⟨by decide,by decide⟩
  · have h1:=h.1
    have an:=h.2
    rw [Int.tdiv_eq_ediv_of_nonneg (by omega)]
    exact⟨by omega,by omega⟩
def cV (t:List aQ) (page need:Int):Int×Bool:=
  if(eO t page).page=-1\/e8 (eO t page).bd need=false\/need=0 then(-1,false) else((eO t page).page,true)
def QS (b:cP) (g:Int):Bool:=jz b&&a3 g 0 ((b.U.length:Int)-1)
def DA (b:cP) (g addr need:Int):Int×Bool:=
  if QS b g=true/\a3 addr 0 15=true then cV (el b.U g.toNat).live (cr addr) need else(-1,false)
def ani (b:cP) (g addr need:Int):Int×Int×Bool:=
  if QS b g=true/\a3 addr 0 15=true then((DA b g addr need).1,dr addr,(DA b g addr need).2) else(0,0,false)
def xG (m:List (List Int)) (p c:Int):Bool:=decide ((0<=p/\p<m.length)/\0<=c/\c<(el m p.toNat).length)
theorem R0 {m:List (List Int)} {p c:Int} (h:xG m p c=true):(0<=p/\p<m.length)/\0<=c/\c<(el m p.toNat).length:=of_decide_eq_true h
theorem RZ {m:List (List Int)} {p c:Int} (h:xG m p c=false):¬((0<=p/\p<m.length)/\0<=c/\c<(el m p.toNat).length):=of_decide_eq_false h
def gf (m:List (List Int)) (p c v:Int):List (List Int):=
  if((0<=p/\p<m.length)/\0<=c/\c<(el m p.toNat).length)/\0<=v/\v<=99 then m.set p.toNat ((el m p.toNat).set c.toNat v) else m
def amR (b:cP) (g addr v:Int):cP×Bool:=
  if(DA b g addr 2).2=true/\a3 v 0 99=true then(⟨gf b.mem (DA b g addr 2).1 (dr addr) v,b.U,b.outs,b.aB⟩,true) else(b,false)
theorem VW {x:Int} (h:a_ x) (h0:0<=x):a_ (x.tdiv 4):=by
  have h1:=h.1
  have an:=h.2
  rw [Int.tdiv_eq_ediv_of_nonneg h0]
  exact⟨by omega,by omega⟩
theorem acx {b:cP} {g:Int} (h:(a2 b g).2=true):0<=g/\g<b.U.length:=by
  unfold a2 at h
  split at h
  · assumption
  · cases h
theorem acw {b:cP} {g:Int} (h:(a2 b g).2=false):¬(0<=g/\g<b.U.length):=by
  unfold a2 at h
  split at h
  · cases h
  · assumption
end Go.Proofs.YtjlocpdfcanlhaaGreat
namespace Go.Proofs.YtjlocpdfcanlhaaGreat
open Go
set_option linter.unusedVariables false
variable {P:Program} {n:Nat} {w0:World} {M:au} {u:World} {N:au} {β:Nat->Nat} {σ:b1} {a:Act} {w:World} {ops:Array Oper} {Q:Exit->Act->World->Prop}
theorem aj.q (S:aj P n w0 M u N β σ a w) {i:Nat} (k:Nat) (keep:List Nat) (m:Nat) (σ':b1) {claims:List (Ask×Value)} (a9:fr P u N claims) (K:∀a0 w' cJ,aj P n w0 M u N cJ σ' a0 w'->jQ P ops Q (i+k) a0 w')
    (bV:nC P n ops i k σ (claims.map (·.2)) keep m=some (σ',claims):=by kernel_rfl):jQ P ops Q i a w:=S.quiet a9 bV K
theorem aj.c (S:aj P n w0 M u N β σ a w) {c:Operand} {x y:Code} (e:Bool) (bs:e=true->x.wp P Q a w) (bf:e=false->y.wp P Q a w) (he:σ.get c=some (.v (.bool e)):=by kernel_rfl):(Code.cond c x y).wp P Q a w:=S.cond he bs bf
theorem aj.r (S:aj P n w0 M u N β σ a w) {fn:Func} {cd:Ending->World->Prop} (ei:List Value) (h:cd (.returned (packed ei)) w) (b5:pE P σ fn.results.toList=some ei:=by kernel_rfl):bodyPost P fn cd .ret a w:=S.ret b5 h
theorem aj.f (S:aj P n w0 M u N β σ a w) {fn:Func} {cd:Ending->World->Prop} (ei:List Value) (h:cd (.returned (packed ei)) w) (b5:pE P σ fn.results.toList=some ei:=by kernel_rfl):bodyPost P fn cd .normal a w:=S.QV b5 h
theorem aj.p (S:aj P n w0 M u N β σ a w) (keep:List Nat) (m:Nat) (σ':b1) (h:rb σ keep m=some σ':=by kernel_rfl):aj P n w0 M u N β σ' a w:=S.prune h
theorem aj.call3 {α:Type} [GT α] {di:Act->World->Prop} (S:aj P n w0 M u N β σ a w) {i:Nat} {f:FuncId} {eG:List Value} {d:Tmp} {r:α} {r':Int} {r'':Bool} (hc:Calls P f eG.toArray w (zo ab w r r' r'')) (hcall:kv P n ops i σ=some (f,eG,d)) (hd:Nat.blt d n=true)
    (K:∀a0 w' aA q F,aj P n w0 M w' aA β ⟨(d,.v (.tuple #[GT.val r q,aa r',B r'']))::σ.env,σ.aM⟩ a0 w'->(∀b,N b->aA b/\w'.heap[b]? =u.heap[b]?)->ad w0 M w' aA F r q->J N F->a_ r'->di a0 w'):wpOp P ops Q i di a w:=
  S.call hcall hc fun _ w' ⟨q,jd,Mi,F,he,ff,bM,kF,aot,bf⟩=>⟨_,he,K _ w' _ q F (S.after hd ff) (S.up ff)
    ⟨bM,fun b h=> .inr (bf b h),fun b h=> .inl (Nat.le_trans S.fp.size (bf b h).1)⟩ (J.fresh S w' fun b h=>bf b h) kF⟩
def TU:List Nat->Nat->Bool
  |[],_=>false
  |s::r,t=>bif Nat.beq s t then true else TU r t
def R1:Env->Nat->Bool
  |[],_=>false
  |(s,_)::r,t=>bif Nat.beq s t then true else R1 r t
def rq:Env->List Nat->Env->List Nat
  |[],_,_=>[]
  |(t,_)::r,dH,new=>bif TU dH t then rq r dH new else bif R1 new t then rq r dH new else t::rq r dH new
def mv:Env->List Nat
  |[]=>[]
  |(s,_)::r=>s::mv r
def OL:List (List Value)->List (Nat×List Value)->List (List Value)
  |b,[]=>b
  |b,(k,c)::r=>OL (bif Nat.blt k b.length then b.set k c else b++[c]) r
def b1.dl (σ:b1) (dH:List Nat) (new:Env) (m:Nat) (o3:List (Nat×List Value)):b1:=⟨σ.keep m (rq σ.env dH new)++new,(OL σ.aM o3).take m⟩
theorem aj.z (S:aj P n w0 M u N β σ a w) {σ':b1} (h:rb σ (mv σ'.env) σ'.aM.length=some σ':=by kernel_rfl):aj P n w0 M u N β σ' a w:=S.prune h
theorem rd {i:Nat} (h:Q .normal a w) (hi:Nat.ble ops.size i=true:=by rfl):jQ P ops Q i a w:=jQ.done hi h
theorem wr (h:Q .ret a w):Code.ret.wp P Q a w:=wp_ret h
abbrev aZ (x:Int):Int:=IntKind.i64.wrap (x+1)
section
variable {α:Type} [GT α] {xs:List α} {p:aC α} {K:Nat}
theorem b6 (h:GT.rd K N u xs p) (k:Nat) {l:Nat} {t e:TypeId} (bs:P.underlying t=some (.slice e)) (hl:l=xs.length:=by rfl) (hi:k<xs.length:=by omega) (he:ji P e=some (GT.width α):=by kernel_rfl):
    g2 P u N (.idx t (R l p.1) (aa (k:Int))) (bg p.1.b (p.1.off+k*GT.width α)):=eI h hl rfl hi bs he
theorem cp (h:GT.rd K N u xs p) (i:Int) {l:Nat} {t e:TypeId} (bs:P.underlying t=some (.slice e)) (hl:l=xs.length:=by rfl) (hk:i=(i.toNat:Int):=by omega) (hi:i.toNat<xs.length:=by omega) (he:ji P e=some (GT.width α):=by kernel_rfl):
    g2 P u N (.idx t (R l p.1) (aa i)) (bg p.1.b (p.1.off+i.toNat*GT.width α)):=eI h hl hk hi bs he
theorem cj (h:GT.rd K N u xs p) (t:TypeId) (k:Nat) (hi:k<xs.length:=by omega) (ay:GT.agg α=false:=by rfl) (bs:lv P t=some false:=by kernel_rfl):
    g2 P u N (.load t (bg p.1.b (p.1.off+k*GT.width α))) (GT.val (el xs k) (p.2 k)):=CR h hi ay bs
theorem dy (h:GT.rd K N u xs p) (t:TypeId) (k:Nat) (hi:k<xs.length:=by omega) (aJ:GT.agg α=true:=by rfl) (ay:lv P t=some true:=by kernel_rfl) (hs:ji P t=some (GT.width α):=by kernel_rfl):
    g2 P u N (.load t (bg p.1.b (p.1.off+k*GT.width α))) (GT.val (el xs k) (p.2 k)):=rB h hi aJ ay hs
theorem cz (h:GT.rd K N u xs p) (t:TypeId) (k j:Nat) (v:Value) (hi:k<xs.length:=by omega) (b0:(GT.cells (el xs k) (p.2 k))[j]? =some v:=by kernel_rfl) (bs:lv P t=some false:=by kernel_rfl):
    g2 P u N (.load t (bg p.1.b (p.1.off+k*GT.width α+j))) v:=iO h hi b0 bs
theorem cg (x y:Int) (h:a_ (x+y):=by exact⟨by omega,by omega⟩):g2 P u N (.int .add .i64 x y) (aa (x+y)):=WU h
theorem g8 (x y:Int) (h:a_ (x-y):=by exact⟨by omega,by omega⟩):g2 P u N (.int .sub .i64 x y) (aa (x-y)):=WX h
theorem aj.dz {di:Act->World->Prop} (S:aj P n w0 M u N β σ a w) {i:Nat} {f:FuncId} {eG:List Value} (d:Tmp) {r:α} (hc:Calls P f eG.toArray w (dw ab w r))
    (K:∀a0 w' aA q F,aj P n w0 M w' aA β ⟨(d,.v (GT.val r q))::σ.env,σ.aM⟩ a0 w'->(∀b,N b->aA b/\w'.heap[b]? =u.heap[b]?)->ad w0 M w' aA F r q->J N F->di a0 w')
    (hcall:kv P n ops i σ=some (f,eG,d):=by kernel_rfl) (hd:Nat.blt d n=true:=by rfl):wpOp P ops Q i di a w:=S.P2 hc hcall hd K
end
abbrev bT {α:Type} [GT α] (w0:World) (x:α) (p:GT.Ptr α):Prop:=GT.rd b7 (fc w0.heap.size) w0 x p
theorem cv {p:Prop} (h:p:=by first|omega|(simp;done)|(simp;omega)):p:=h
theorem cO {p:Prop} (h:p:=by clear S;first|omega|(simp [*];done)|(simp [*];omega)):p:=h
end Go.Proofs.YtjlocpdfcanlhaaGreat
namespace Go.Proofs.YtjlocpdfcanlhaaGreat
open Go
def dA {α:Type} [GT α] (b:Nat) (p:GT.Ptr α):aC α:=(⟨false,b,0,1,none⟩,fun _=>p)
def xN (k b:Nat):eJ->eJ
  | .p j o=>bif Nat.beq j k then .v (bg b o) else .p (bif Nat.blt k j then j-1 else j) o
  | .v x=> .v x
def tb (k b:Nat):Env->Env
  |[]=>[]
  |(t,s)::r=>(t,xN k b s)::tb k b r
theorem Bd {k b t:Nat}:∀(e:Env),look (tb k b e) t=(look e t).map (xN k b)
  |
    []=>rfl
  |(s,x)::r=>by
    simp only [tb,pt]
    split
    · rfl
    · exact Bd r
def b1.nJ (σ:b1) (k b:Nat):b1:=⟨tb k b σ.env,σ.aM.eraseIdx k⟩
section
variable {P:Program} {n:Nat} {w0:World} {M:au} {u:World} {N:au} {β:Nat->Nat} {σ:b1} {a:Act} {w:World} {ops:Array Oper} {di:Act->World->Prop} {Q:Exit->Act->World->Prop}
theorem aj.nJ (S:aj P n w0 M u N β σ a w) {G:Prop} {α:Type} [GT α] (k:Nat) (x:α) (p:GT.Ptr α) (hx:GT.own b7 ab w x p)
    (K:∀(cJ:Nat->Nat) (aA:au) (b:Nat) (F:au),aj P n w0 M w aA cJ (σ.nJ k b) a w->(∀b,N b->aA b/\w.heap[b]? =u.heap[b]?)->ad w0 M w aA F [x] (dA b p)->J N F->G)
    (hk:σ.aM[k]? =some (GT.cells x p):=by kernel_rfl):G:=by
  have pn:k<σ.aM.length:=(List.getElem?_eq_some_iff.1 hk).1
  obtain⟨T,rZ⟩:=S.box k _ hk
  have hb:β k<w.heap.size:=by
    rcases Nat.lt_or_ge (β k) w.heap.size with hl|hl
    · exact hl
    · rw [Array.getElem?_eq_none hl] at rZ;cases rZ
  have hlen:(σ.aM.eraseIdx k).length=σ.aM.length-1:=List.length_eraseIdx_of_lt pn
  have lT:∀i,i<(σ.aM.eraseIdx k).length->(bif Nat.blt i k then i else i+1)<σ.aM.length/\(bif Nat.blt i k then i else i+1)≠k:=fun i hi=>by
    rw [hlen] at hi
    cases h:Nat.blt i k with
    |true=>have:=(Nat.le_of_ble_eq_true h:i+1<=k);exact⟨by simp only [cond_true];omega,by simp only [cond_true];omega⟩
    |false=>
      have:¬i<k:=fun a1=>by rw [show Nat.blt i k=true from Nat.ble_eq_true_of_le a1] at h;cases h
      exact⟨by simp only [cond_false];omega,by simp only [cond_false];omega⟩
  have JV:=GT.len x p
  refine K (fun i=>β (bif Nat.blt i k then i else i+1)) (fun b=>N b\/b=β k) (β k) (fun b=>b=β k) ⟨S.l_,S.aW,fun t s bs=>?_,fun t i o bs=>?_,fun i cs hi=>?_,fun i j hi b0 h=>?_,fun i hi=>?_,fun b eN=>?_,S.fp,fun b eN hm=>?_⟩ (fun b eN=>⟨.inl eN,(S.sep b eN).2.1⟩) ⟨?_,fun b h=> .inr h,fun b h=>?_⟩ (fun b h1 an=>?_)
  · rw [show(σ.nJ k (β k)).env=tb k (β k) σ.env from rfl,Bd] at bs
    cases hs:look σ.env t with
    |none=>rw [hs] at bs;cases bs
    |some ga=>
      rw [hs] at bs
      simp only [Option.map_some,Option.some.injEq] at bs
      subst bs
      rw [S.env t ga hs]
      congr 1
      cases ga with
      |v x=>rfl
      |p j o=>
        simp only [xN]
        cases he:Nat.beq j k with
        |true=>rw [Nat.eq_of_beq_eq_true he];rfl
        |false=>
          have r7:j≠k:=fun e=>by rw [e,Nat.beq_refl] at he;cases he
          simp only [cond_false,eJ.val]
          cases hl:Nat.blt k j with
          |true=>
            have h1:k<j:=Nat.le_of_ble_eq_true hl
            have an:Nat.blt (j-1) k=false:=by
              cases aF:Nat.blt (j-1) k with
              |false=>rfl
              |true=>have:=(Nat.le_of_ble_eq_true aF:j-1+1<=k);omega
            simp only [cond_true,an,cond_false]
            rw [show j-1+1=j by omega]
          |false=>
            have h1:¬k<j:=fun a1=>by rw [show Nat.blt k j=true from Nat.ble_eq_true_of_le a1] at hl;cases hl
            have an:Nat.blt j k=true:=Nat.ble_eq_true_of_le (by omega:j+1<=k)
            simp only [cond_false,an,cond_true]
  · rw [show(σ.nJ k (β k)).env=tb k (β k) σ.env from rfl,Bd] at bs
    show i<(σ.aM.eraseIdx k).length
    cases hs:look σ.env t with
    |none=>rw [hs] at bs;cases bs
    |some ga=>
      rw [hs] at bs
      simp only [Option.map_some,Option.some.injEq] at bs
      cases ga with
      |v x=>cases bs
      |p j jW=>
        have b0:=S.ok t j jW hs
        simp only [xN] at bs
        cases he:Nat.beq j k with
        |true=>rw [he] at bs;cases bs
        |false=>
          have r7:j≠k:=fun e=>by rw [e,Nat.beq_refl] at he;cases he
          rw [he] at bs
          simp only [cond_false,eJ.p.injEq] at bs
          rw [hlen,←bs.1]
          cases hl:Nat.blt k j with
          |true=>simp only [cond_true];have:=(Nat.le_of_ble_eq_true hl:k+1<=j);omega
          |false=>
            have h1:¬k<j:=fun a1=>by rw [show Nat.blt k j=true from Nat.ble_eq_true_of_le a1] at hl;cases hl
            simp only [cond_false];omega
  · have hD:(σ.aM.eraseIdx k)[i]? =some cs:=hi
    rw [List.getElem?_eraseIdx] at hD
    cases h:Nat.blt i k with
    |true=>
      rw [if_pos (show i<k from Nat.le_of_ble_eq_true h)] at hD
      obtain⟨n7,cl⟩:=S.box i cs hD
      exact⟨n7,by simpa only [h,cond_true] using cl⟩
    |false=>
      have:¬i<k:=fun a1=>by rw [show Nat.blt i k=true from Nat.ble_eq_true_of_le a1] at h;cases h
      rw [if_neg this] at hD
      obtain⟨n7,cl⟩:=S.box (i+1) cs hD
      exact⟨n7,by simpa only [h,cond_false] using cl⟩
  · have e:=S.inj _ _ (lT i hi).1 (lT j b0).1 h
    have mI:=(lT i hi).2
    have k_:=(lT j b0).2
    revert e mI k_
    cases h1:Nat.blt i k<;>cases an:Nat.blt j k<;>simp only [cond_true,cond_false]<;>intro e mI k_
    · omega
    · have:=(Nat.le_of_ble_eq_true an:j+1<=k)
      have:¬i<k:=fun a1=>by rw [show Nat.blt i k=true from Nat.ble_eq_true_of_le a1] at h1;cases h1
      omega
    · have:=(Nat.le_of_ble_eq_true h1:i+1<=k)
      have:¬j<k:=fun a1=>by rw [show Nat.blt j k=true from Nat.ble_eq_true_of_le a1] at an;cases an
      omega
    · exact e
  · exact S.new _ (lT i hi).1
  · rcases eN with h|h
    · exact⟨(S.sep b h).1,rfl,fun i hi=>(S.sep b h).2.2 _ (lT i hi).1⟩
    · subst h
      exact⟨hb,rfl,fun i hi e=>(lT i hi).2 (S.inj _ _ (lT i hi).1 pn e)⟩
  · have h:=S.k3 b eN hm
    exact⟨.inl h.1,(S.sep b h.1).2.1.trans h.2⟩
  · show g1 b7 _ w [x] (dA (β k) p)
    refine⟨by simp [b7],Nat.le_refl _,by simp [dA],fun h=>(by cases h),fun _=>⟨rfl,_,T,rZ,by simp [dA,JV]⟩,fun i hi=>?_,⟨fun _=>ab,fun i hi=>?_,fun _ _ _ h=>False.elim h,fun i j hi b0 r6=>by simp at hi b0;omega⟩⟩
    · have e:i=0:=by simp at hi;exact hi
      subst e
      intro j v b0
      have hc:w.cell? ⟨β k,0+0*GT.width α+j,none⟩=some v:=by
        unfold World.cell?
        rw [rZ]
        have AP:(GT.cells x p)[j]? =some v:=b0
        simp [AP]
      exact hc
    · have e:i=0:=by simp at hi;exact hi
      subst e
      exact hx
  · subst h;exact S.new k pn
  · subst an;exact(S.sep _ h1).2.2 k pn rfl
theorem aj.abM (S:aj P n w0 M u N β σ a w) {G:Prop} {α:Type} [GT α] (k:Nat) {x:α} {p:GT.Ptr α} {uo:au} (hx:ad w0 M u N uo x p)
    (K:∀(cJ:Nat->Nat) (aA:au) (b:Nat) (F:au),aj P n w0 M w aA cJ (σ.nJ k b) a w->(∀b,N b->aA b/\w.heap[b]? =u.heap[b]?)->ad w0 M w aA F [x] (dA b p)->(∀H:au,J H uo->(∀b,H b->N b)->J H F)->G)
    (hk:σ.aM[k]? =some (GT.cells x p):=by kernel_rfl):G:=by
  have pn:k<σ.aM.length:=(List.getElem?_eq_some_iff.1 hk).1
  obtain⟨T,rZ⟩:=S.box k _ hk
  have hb:β k<w.heap.size:=by
    rcases Nat.lt_or_ge (β k) w.heap.size with hl|hl
    · exact hl
    · rw [Array.getElem?_eq_none hl] at rZ;cases rZ
  have hlen:(σ.aM.eraseIdx k).length=σ.aM.length-1:=List.length_eraseIdx_of_lt pn
  have lT:∀i,i<(σ.aM.eraseIdx k).length->(bif Nat.blt i k then i else i+1)<σ.aM.length/\(bif Nat.blt i k then i else i+1)≠k:=fun i hi=>by
    rw [hlen] at hi
    cases h:Nat.blt i k with
    |true=>have:=(Nat.le_of_ble_eq_true h:i+1<=k);exact⟨by simp only [cond_true];omega,by simp only [cond_true];omega⟩
    |false=>
      have:¬i<k:=fun a1=>by rw [show Nat.blt i k=true from Nat.ble_eq_true_of_le a1] at h;cases h
      exact⟨by simp only [cond_false];omega,by simp only [cond_false];omega⟩
  have JV:=GT.len x p
  refine K (fun i=>β (bif Nat.blt i k then i else i+1)) (fun b=>N b\/b=β k) (β k) (fun b=>b=β k\/uo b) ⟨S.l_,S.aW,fun t s bs=>?_,fun t i o bs=>?_,fun i cs hi=>?_,fun i j hi b0 h=>?_,fun i hi=>?_,fun b eN=>?_,S.fp,fun b eN hm=>?_⟩ (fun b eN=>⟨.inl eN,(S.sep b eN).2.1⟩) ⟨?_,fun b h=>h.elim .inr (fun h=> .inl (hx.sub b h)),fun b h=>?_⟩ (fun H cm a8 b h1 an=>?_)
  · rw [show(σ.nJ k (β k)).env=tb k (β k) σ.env from rfl,Bd] at bs
    cases hs:look σ.env t with
    |none=>rw [hs] at bs;cases bs
    |some ga=>
      rw [hs] at bs
      simp only [Option.map_some,Option.some.injEq] at bs
      subst bs
      rw [S.env t ga hs]
      congr 1
      cases ga with
      |v x=>rfl
      |p j o=>
        simp only [xN]
        cases he:Nat.beq j k with
        |true=>rw [Nat.eq_of_beq_eq_true he];rfl
        |false=>
          have r7:j≠k:=fun e=>by rw [e,Nat.beq_refl] at he;cases he
          simp only [cond_false,eJ.val]
          cases hl:Nat.blt k j with
          |true=>
            have h1:k<j:=Nat.le_of_ble_eq_true hl
            have an:Nat.blt (j-1) k=false:=by
              cases aF:Nat.blt (j-1) k with
              |false=>rfl
              |true=>have:=(Nat.le_of_ble_eq_true aF:j-1+1<=k);omega
            simp only [cond_true,an,cond_false]
            rw [show j-1+1=j by omega]
          |false=>
            have h1:¬k<j:=fun a1=>by rw [show Nat.blt k j=true from Nat.ble_eq_true_of_le a1] at hl;cases hl
            have an:Nat.blt j k=true:=Nat.ble_eq_true_of_le (by omega:j+1<=k)
            simp only [cond_false,an,cond_true]
  · rw [show(σ.nJ k (β k)).env=tb k (β k) σ.env from rfl,Bd] at bs
    show i<(σ.aM.eraseIdx k).length
    cases hs:look σ.env t with
    |none=>rw [hs] at bs;cases bs
    |some ga=>
      rw [hs] at bs
      simp only [Option.map_some,Option.some.injEq] at bs
      cases ga with
      |v x=>cases bs
      |p j jW=>
        have b0:=S.ok t j jW hs
        simp only [xN] at bs
        cases he:Nat.beq j k with
        |true=>rw [he] at bs;cases bs
        |false=>
          have r7:j≠k:=fun e=>by rw [e,Nat.beq_refl] at he;cases he
          rw [he] at bs
          simp only [cond_false,eJ.p.injEq] at bs
          rw [hlen,←bs.1]
          cases hl:Nat.blt k j with
          |true=>simp only [cond_true];have:=(Nat.le_of_ble_eq_true hl:k+1<=j);omega
          |false=>
            have h1:¬k<j:=fun a1=>by rw [show Nat.blt k j=true from Nat.ble_eq_true_of_le a1] at hl;cases hl
            simp only [cond_false];omega
  · have hD:(σ.aM.eraseIdx k)[i]? =some cs:=hi
    rw [List.getElem?_eraseIdx] at hD
    cases h:Nat.blt i k with
    |true=>
      rw [if_pos (show i<k from Nat.le_of_ble_eq_true h)] at hD
      obtain⟨n7,cl⟩:=S.box i cs hD
      exact⟨n7,by simpa only [h,cond_true] using cl⟩
    |false=>
      have:¬i<k:=fun a1=>by rw [show Nat.blt i k=true from Nat.ble_eq_true_of_le a1] at h;cases h
      rw [if_neg this] at hD
      obtain⟨n7,cl⟩:=S.box (i+1) cs hD
      exact⟨n7,by simpa only [h,cond_false] using cl⟩
  · have e:=S.inj _ _ (lT i hi).1 (lT j b0).1 h
    have mI:=(lT i hi).2
    have k_:=(lT j b0).2
    revert e mI k_
    cases h1:Nat.blt i k<;>cases an:Nat.blt j k<;>simp only [cond_true,cond_false]<;>intro e mI k_
    · omega
    · have:=(Nat.le_of_ble_eq_true an:j+1<=k)
      have:¬i<k:=fun a1=>by rw [show Nat.blt i k=true from Nat.ble_eq_true_of_le a1] at h1;cases h1
      omega
    · have:=(Nat.le_of_ble_eq_true h1:i+1<=k)
      have:¬j<k:=fun a1=>by rw [show Nat.blt j k=true from Nat.ble_eq_true_of_le a1] at an;cases an
      omega
    · exact e
  · exact S.new _ (lT i hi).1
  · rcases eN with h|h
    · exact⟨(S.sep b h).1,rfl,fun i hi=>(S.sep b h).2.2 _ (lT i hi).1⟩
    · subst h
      exact⟨hb,rfl,fun i hi e=>(lT i hi).2 (S.inj _ _ (lT i hi).1 pn e)⟩
  · have h:=S.k3 b eN hm
    exact⟨.inl h.1,(S.sep b h.1).2.1.trans h.2⟩
  · show g1 b7 _ w [x] (dA (β k) p)
    refine⟨by simp [b7],Nat.le_refl _,by simp [dA],fun h=>(by cases h),fun _=>⟨.inl rfl,_,T,rZ,by simp [dA,JV]⟩,fun i hi=>?_,⟨fun _=>uo,fun i hi=>?_,fun _ _ b h=>⟨.inr h,fun e=>(S.sep b (hx.sub b h)).2.2 k pn e.symm⟩,fun i j hi b0 r6=>by simp at hi b0;omega⟩⟩
    · have e:i=0:=by simp at hi;exact hi
      subst e
      intro j v b0
      have hc:w.cell? ⟨β k,0+0*GT.width α+j,none⟩=some v:=by
        unfold World.cell?
        rw [rZ]
        have AP:(GT.cells x p)[j]? =some v:=b0
        simp [AP]
      exact hc
    · have e:i=0:=by simp at hi;exact hi
      subst e
      exact S.fX hx
  · rcases h with h|h
    · subst h;exact S.new k pn
    · exact hx.dJ b h
  · rcases an with an|an
    · subst an;exact(S.sep _ (a8 _ h1)).2.2 k pn rfl
    · exact cm b h1 an
def ur {α:Type} [GT α] (ks F:au) (w:World) (r:α) (e:Ending) (w':World):Prop:=
  ∃q bW,e= .returned (GT.val r q)/\bu ks w w'/\GT.own b7 bW w' r q/\∀b,bW b->F b\/(w.heap.size<=b/\b<w'.heap.size)
theorem aj.Z4 {α g_:Type} [GT α] [GT g_] {F:au} {x:α} {p:GT.Ptr α} (S:aj P n w0 M u N β σ a w) (o:ad w0 M u N F x p) {i:Nat} {f:FuncId} {eG:List Value} {d:Tmp} {r:g_} (hc:Calls P f eG.toArray w (ur F F w r))
    (K:∀a0 w' aA q bW,aj P n w0 M w' aA β ⟨(d,.v (GT.val r q))::σ.env,σ.aM⟩ a0 w'->(∀b,N b->¬F b->aA b/\w'.heap[b]? =u.heap[b]?)->ad w0 M w' aA bW r q->(∀G:au,J G F->(∀b,G b->N b)->J G bW)->di a0 w')
    (hcall:kv P n ops i σ=some (f,eG,d):=by kernel_rfl) (hd:Nat.blt d n=true:=by kernel_rfl):wpOp P ops Q i di a w:=
  S.call hcall hc fun _ w' ⟨q,bW,he,ff,bM,bf⟩=>⟨_,he,K _ w' _ q bW ((S.qE ff o.sub o.dJ).put (vV hd) (fun _ _ e=>by cases e)) (S.bw ff)
    ⟨bM,fun b h=>(bf b h).elim (fun h=> .inl (o.sub b h)) .inr,fun b h=>(bf b h).elim (o.dJ b) (fun h=> .inl (Nat.le_trans S.fp.size h.1))⟩
    (fun G cm a8 b h1 an=>(bf b an).elim (cm b h1) (fun h=>by have:=(S.sep b (a8 b h1)).1;omega))⟩
theorem aj.Z6 {α g_:Type} [GT α] [GT g_] {F:au} {x:α} {p:GT.Ptr α} (S:aj P n w0 M u N β σ a w) (o:ad w0 M u N F x p) {i:Nat} {f:FuncId} {eG:List Value} {d:Tmp} {r Y:g_} (hY:Y=r) (hc:Calls P f eG.toArray w (ur F F w r))
    (K:∀a0 w' aA q bW,aj P n w0 M w' aA β ⟨(d,.v (GT.val Y q))::σ.env,σ.aM⟩ a0 w'->(∀b,N b->¬F b->aA b/\w'.heap[b]? =u.heap[b]?)->ad w0 M w' aA bW Y q->(∀G:au,J G F->(∀b,G b->N b)->J G bW)->di a0 w')
    (hcall:kv P n ops i σ=some (f,eG,d):=by kernel_rfl) (hd:Nat.blt d n=true:=by kernel_rfl):wpOp P ops Q i di a w:=by
  subst hY;exact S.Z4 o hc K hcall hd
theorem B4 {α:Type} [GT α] {F bW:au} {r x:α} {p:GT.Ptr α} {v:Value} (S:aj P n w0 M u N β σ a w) (h:r=x) (b5:v=GT.val x p) (o:ad w0 F u N bW x p):ur M F w0 r (.returned (packed [v])) w:=by
  subst h b5
  exact⟨p,bW,rfl,S.fp,GT.b8 o.own (fun b hb _=>(S.sep b (o.sub b hb)).2.1),fun b hb=>(o.dJ b hb).elim (fun h=> .inr ⟨h,(S.sep b (o.sub b hb)).1⟩) .inl⟩
def alN {α g_ CD:Type} [GT α] [GT g_] [GT CD] (F:au) (b6:aC CD) (w:World) (r:α) (r':g_) (K6:CD) (e:Ending) (w':World):Prop:=
  ∃(q:GT.Ptr α) (jd:GT.Ptr g_) (cc br:au) (cw:Nat->GT.Ptr CD),e= .returned (.tuple #[GT.val r q,GT.val r' jd])/\bu F w w'/\GT.own b7 cc w' r q/\GT.own b7 br w' r' jd/\(∀b,cc b->w.heap.size<=b/\b<w'.heap.size)/\GT.own b7 F w' [K6] ((b6.1,cw):aC CD)
def sN {α:Type} [GT α] (cd:GT.Ptr α->GT.Ptr α->Prop) (F:au) (b6:aC α) (w:World) (v:Value) (cl:α) (e:Ending) (w':World):Prop:=
  ∃(cw:Nat->GT.Ptr α) (bW:au),e= .returned v/\bu F w w'/\GT.own b7 bW w' [cl] ((b6.1,cw):aC α)/\(∀b,bW b->F b\/(w.heap.size<=b/\b<w'.heap.size))/\cd (b6.2 0) (cw 0)
def amq (P:Program) (ops:Array Oper) (i:Nat) (σ:b1):Option (FuncId×List Value):=
  match ops.toList[i]? with
  |some o=>
    match oi ops σ o,o.op,o.dst with
    |some true,.call ⟨.value (.func f),args,_⟩,none=>bif callee P f then(mC σ args.toList).map fun l=>(f,l) else none
    |_,_,_=>none
  |none=>none
theorem aj.Z3 {α:Type} [GT α] {cd:GT.Ptr α->GT.Ptr α->Prop} {F:au} {x:α} {b6:aC α} (S:aj P n w0 M u N β σ a w) (o:ad w0 M u N F [x] b6) {i:Nat} {f:FuncId} {eG:List Value} {d:Tmp} {v:Value} {jj:α} (hc:Calls P f eG.toArray w (sN cd F b6 w v jj))
    (K:∀k_ w' aA cw bW,aj P n w0 M w' aA β ⟨(d,.v v)::σ.env,σ.aM⟩ k_ w'->(∀b,N b->¬F b->aA b/\w'.heap[b]? =u.heap[b]?)->ad w0 M w' aA bW [jj] ((b6.1,cw):aC α)->(∀G:au,J G F->(∀b,G b->N b)->J G bW)->cd (b6.2 0) (cw 0)->di k_ w')
    (hcall:kv P n ops i σ=some (f,eG,d):=by kernel_rfl) (hd:Nat.blt d n=true:=by kernel_rfl):wpOp P ops Q i di a w:=
  S.call hcall hc fun _ w' ⟨cw,bW,he,ff,bM,bf,u_⟩=>⟨_,he,K _ w' _ cw bW ((S.qE ff o.sub o.dJ).put (vV hd) (fun _ _ e=>by cases e)) (S.bw ff)
    ⟨bM,fun b h=>(bf b h).elim (fun h=> .inl (o.sub b h)) .inr,fun b h=>(bf b h).elim (o.dJ b) (fun h=> .inl (Nat.le_trans S.fp.size h.1))⟩
    (fun G cm a8 b h1 an=>(bf b an).elim (cm b h1) (fun h=>by have:=(S.sep b (a8 b h1)).1;omega)) u_⟩
theorem tS {α:Type} [GT α] {cd:GT.Ptr α->GT.Ptr α->Prop} {F bW:au} {cl x:α} {b6:aC α} {cw:Nat->GT.Ptr α} {v:Value} (S:aj P n w0 F u N β σ a w) (h:cl=x) (u_:cd (b6.2 0) (cw 0)) (o:ad w0 F u N bW [x] ((b6.1,cw):aC α)):sN cd F b6 w0 v cl (.returned v) w:=by
  subst h
  exact⟨cw,bW,rfl,S.fp,GT.b8 o.own (fun b hb _=>(S.sep b (o.sub b hb)).2.1),fun b hb=>(o.dJ b hb).elim (fun h=> .inr ⟨h,(S.sep b (o.sub b hb)).1⟩) .inl,u_⟩
end
end Go.Proofs.YtjlocpdfcanlhaaGreat
namespace Go.Proofs.YtjlocpdfcanlhaaGreat
open Go
set_option linter.unusedVariables false
section
variable {P:Program} {ops:Array Oper} {cd:Act->World->Prop} {C:World->Prop} {st:Nat}
theorem ar.abt {i:Nat} {nc:Oper} {v:Value} (hi:ops[i]? =some nc) (AZ:Region.noSelect ops=true) (vG:i≠st):
    ∀
      (f:Nat) (b9:Array Bool) (a:Act) (w:World),
      (∀j nd,ops[j]? =some nd->j≠i->b9.getD j true=false->(∀e∈nd.after,Region.binds .any e=true->e.on≠i)->nc.apart ops nd=true)->
      i∈Region.ready .any ops b9->YieldsIf P ops (fun _=>True) nc v a->(b9.getD st false=false->C w)->
      ar P ops cd st C f (b9.setIfInBounds i true) (a.put nc.dst v) w->ar P ops cd st C (f+1) b9 a w:=by
  intro f
  have JM:∀c a w,k9 cd (.panic c) (a.put nc.dst v) w->k9 cd (.panic c) a w:=fun _ _ _ h=>(by cases h.1)
  have Cy:∀(b9:Array Bool),i∈Region.ready .any ops b9->b9.getD i false=false:=fun b9 bn=>by
    have h0:=(mem_ready.1 bn).1
    rcases Nat.lt_or_ge i b9.size with cl|cl
    · simp [cl] at h0 ⊢;exact h0
    · simp [Array.getElem?_eq_none cl]
  induction f with
  |zero=>
    intro b9 a w _ bn hy bk H
    refine⟨fun h=>(by rw [h] at bn;cases bn),fun j b0=>?_⟩
    by_cases ll:j=i
    · subst ll;exact hy.wpOp hi trivial ⟨fun h=>bk (by rwa [getD_set_ne false vG] at h),H⟩
    · have:=ready_mono b0 ll
      rw [H.1] at this
      cases this
  |succ f gh=>
    intro b9 a w AO bn hy bk H
    refine⟨fun h=>(by rw [h] at bn;cases bn),fun j b0=>?_⟩
    by_cases ll:j=i
    · subst ll;exact hy.wpOp hi trivial ⟨fun h=>bk (by rwa [getD_set_ne false vG] at h),H⟩
    have h1:=H.2 j (ready_mono b0 ll)
    obtain⟨AQ,nd,vJ,ph⟩:=mem_ready.1 b0
    have JL:∀e∈nd.after,Region.binds .any e=true->e.on≠i:=fun e he hb heq=>by
      have an:=ph e he hb
      rw [heq,Cy b9 bn] at an
      cases an
    have an:=wpOp_putIf vJ (AO j nd vJ ll AQ JL) (fun cs b=>Region.noSelect_spec AZ i nc cs b hi) (fun cs b=>Region.noSelect_spec AZ j nd cs b vJ) JM hy h1
    have Jn:∀k ok,ops[k]? =some ok->k≠i->(b9.setIfInBounds j true).getD k true=false->(∀e∈ok.after,Region.binds .any e=true->e.on≠i)->nc.apart ops ok=true:=fun k ok hk Jt hu JK=>by
      refine AO k ok hk Jt ?_ JK
      by_cases r7:j=k
      · subst r7;exact AQ
      · rwa [getD_set_ne true r7] at hu
    refine wpOp_mono (fun a0 w' aF=>?_) an
    obtain⟨b2,bl,cR⟩:=aF
    have Al:(b9.setIfInBounds j true).getD st false=false->C w':=fun h=>bl (by
      rw [Array.setIfInBounds_comm _ _ (Ne.symm ll),getD_set_ne false vG];exact h)
    rw [Array.setIfInBounds_comm _ _ (Ne.symm ll)] at cR
    exact⟨Al,gh (b9.setIfInBounds j true) a0 w' Jn (ready_mono bn (Ne.symm ll)) b2 Al cR⟩
end
section
variable {P:Program} {n:Nat} {w0:World} {M:au} {u:World} {N:au} {β:Nat->Nat} {σ σ':b1} {a:Act} {w:World} {ops:Array Oper} {cd:Act->World->Prop} {C:World->Prop} {st:Nat}
def yI (β:Nat->Nat):Env->Env
  |[]=>[]
  |(t,s)::r=>(t,.v (s.val β))::yI β r
def b1.pl (σ:b1) (β:Nat->Nat):b1:=⟨yI β σ.env,[]⟩
theorem KU {t:Nat}:∀(e:Env),look (yI β e) t=(look e t).map fun s=> .v (s.val β)
  |
    []=>rfl
  |(s,x)::r=>by
    simp only [yI,pt]
    split
    · rfl
    · exact KU r
theorem aj.W4 (S:aj P n w0 M u N β σ a w) (w':World):aj P n w' (fun _=>True) w' ab β (σ.pl β) a w':=by
  refine⟨S.l_,S.aW,fun t s bs=>?_,fun t k o bs=>?_,fun k cs hk=>by simp [b1.pl] at hk,fun _ _ b0=>by simp [b1.pl] at b0,fun _ hk=>by simp [b1.pl] at hk,fun b hb=>False.elim hb,bu.refl _ _,fun b _ hm=>absurd trivial hm⟩
  · rw [show(σ.pl β).env=yI β σ.env from rfl,KU] at bs
    cases hs:look σ.env t with
    |none=>rw [hs] at bs;cases bs
    |some ga=>
      rw [hs] at bs
      simp only [Option.map_some,Option.some.injEq] at bs
      subst bs
      exact S.env t ga hs
  · rw [show(σ.pl β).env=yI β σ.env from rfl,KU] at bs
    cases hs:look σ.env t with
    |none=>rw [hs] at bs;cases bs
    |some ga=>rw [hs] at bs;simp at bs
def Ft (P:Program) (ops:Array Oper) (β:Nat->Nat) (σ:b1) (i:Nat):Bool:=
  match ops[i]? with
  |some o=>
    match oi ops σ o with
    |some false=>true
    |some true=>match tH P (σ.pl β) o,tH P σ o with
      |some (.val _),some (.val _)=>true
      |_,_=>false
    |none=>false
  |none=>false
def BN (ops:Array Oper) (st:Nat) (b9:Array Bool) (i:Nat):Bool:=
  Region.noSelect ops&&Region.free .any ops b9 i&&(Region.ready .any ops b9).contains i&& !Nat.beq i st
theorem aj.aeD (S:aj P n w0 M u N β σ a w) {i f:Nat} {b9:Array Bool} (a1:BN ops st b9 i=true) (bD:Ft P ops β σ i=true) (bk:b9.getD st false=false->C w) (bV:gA P n ops ((ops.toList.drop i).take 1) σ []=some (σ',[]))
    (K:∀a0,aj P n w0 M u N β σ' a0 w->ar P ops cd st C f (b9.setIfInBounds i true) a0 w):ar P ops cd st C (f+1) b9 a w:=by
  unfold Ft at bD
  split at bD
  · rename_i o bM
    have eP:i<ops.size:=(Array.getElem?_eq_some_iff.1 bM).1
    have hl:(ops.toList.drop i).take 1=[o]:=by
      rw [List.drop_eq_getElem_cons (show i<ops.toList.length by simpa using eP)]
      have:=(Array.getElem?_eq_some_iff.1 bM).2
      simp [←this]
    rw [hl] at bV
    simp only [BN,Bool.and_eq_true,Bool.not_eq_true'] at a1
    obtain⟨⟨⟨hv,nx⟩,qF⟩,o2⟩:=a1
    have vG:i≠st:=fun e=>by rw [e,Nat.beq_refl] at o2;cases o2
    have fin:∀v,YieldsIf P ops (fun _=>True) o v a->aj P n w0 M u N β σ' (a.put o.dst v) w->ar P ops cd st C (f+1) b9 a w:=fun v hy ik=>
      ar.abt bM hv vG f b9 a w (Region.free_spec bM nx) (by simpa using qF) hy bk (K _ ik)
    simp only [gA] at bV
    split at bV
    · cases bV
    · rename_i aJ
      cases ia:σ.put n o.dst (.v undef) with
      |none=>rw [ia] at bV;cases bV
      |some F7=>
        rw [ia] at bV
        simp only [Option.bind_some,Option.some.injEq,Prod.mk.injEq,and_true] at bV
        subst bV
        exact fin undef (.inr ⟨mi S aJ,rfl⟩) (S.put ia (fun _ _ e=>by cases e))
    · rename_i aJ
      simp only [aJ] at bD
      have hw:=mi S aJ
      split at bD
      · rename_i F3 V4 vP ys
        have oz:∀w',(execOp a.eval o).run P w'= .ok (.value (F3.val β)) w':=fun w'=>(l3 (S.W4 w') vP).1
        split at bV
        · cases bV
        · rename_i x hx
          cases ia:σ.put n o.dst x with
          |none=>rw [ia] at bV;cases bV
          |some F7=>
            rw [ia] at bV
            simp only [Option.bind_some,Option.some.injEq,Prod.mk.injEq,and_true] at bV
            subst bV
            have h1:=(l3 S hx).1
            rw [oz w] at h1
            have e:F3.val β=x.val β:=by
              injection h1 with h1 _
              injection h1
            exact fin (x.val β) (.inl ⟨hw,fun w' _=>e▸oz w'⟩) (S.put ia (l3 S hx).2)
        · rename_i h0;rw [h0] at ys;cases ys
        · rename_i h0;rw [h0] at ys;cases ys
        · rename_i h0;rw [h0] at ys;cases ys
      · cases bD
  · cases bD
def b1.xf (σ:b1) (dH:List Nat) (new:Env):b1:=⟨σ.keep 1000 (rq σ.env dH new)++new,σ.aM⟩
theorem aj.a9 {aM:List (List Value)} (S:aj P n w0 M u N β σ a w) {f:Nat} {b9:Array Bool} (i:Nat) (path:List Nat) (dH:List Nat) (new:Env) {claims:List (Ask×Value)} (a9:fr P u N claims)
    (K:∀a0,aj P n w0 M u N β (σ.xf dH new) a0 w->ar P ops cd st (e6 w0 M u N β aM) f (b9.setIfInBounds i true) a0 w)
    (jG:σ.aM=aM:=by kernel_rfl) (a1:AW ops st b9 i path=true:=by kernel_rfl) (p_:zy P ops σ i=true:=by kernel_rfl)
    (bV:nC P n ops i 1 σ (claims.map (·.2)) (rq σ.env dH new++mv new) 1000=some (σ.xf dH new,claims):=by kernel_rfl):ar P ops cd st (e6 w0 M u N β aM) (f+1) b9 a w:=by
  subst jG
  exact S.hoist a1 p_ a9 bV K
theorem aj.tR {aM:List (List Value)} (S:aj P n w0 M u N β σ a w) (jG:σ.aM=aM:=by kernel_rfl):e6 w0 M u N β aM w:=jG▸S.rc
def q1 (l:Array Bool):List Nat->Array Bool
  |[]=>l
  |i::r=>q1 (l.setIfInBounds i true) r
theorem xD:∀(r:List Oper) (σ:b1) (c8:List Value) (z:b1×List (Ask×Value)),gA P n ops r σ c8=some z->gA P n ops r σ (z.2.map (·.2))=some z
  |
    [],σ,c8,z,h=>by
    simp only [gA,Option.some.injEq] at h ⊢
    subst h;rfl
  |o::r,σ,c8,z,h=>by
    unfold gA at h ⊢
    split at h
    · cases h
    · rw [Option.bind_eq_some_iff] at h ⊢
      obtain⟨σ',h1,an⟩:=h
      exact⟨σ',h1,xD r σ' c8 z an⟩
    · split at h
      · cases h
      · rw [Option.bind_eq_some_iff] at h ⊢
        obtain⟨σ',h1,an⟩:=h
        exact⟨σ',h1,xD r σ' c8 z an⟩
      · split at h
        · cases h
        · rw [Option.bind_eq_some_iff] at h
          obtain⟨σ',h1,an⟩:=h
          rw [Option.map_eq_some_iff] at an
          obtain⟨x,aF,b2⟩:=an
          subst b2
          simp only [List.map_cons]
          rw [h1]
          simp only [Option.bind_some,xD r σ' _ x aF,Option.map_some]
      · rw [Option.bind_eq_some_iff] at h ⊢
        obtain⟨σ',h1,an⟩:=h
        exact⟨σ',h1,xD r σ' c8 z an⟩
      · split at h
        · exact xD r _ c8 z h
        · cases h
def Qg (ops:Array Oper) (i:Nat) (l:List Nat):List Nat:=
  match ops[i]? with
  |some o=>match o.dst with
    |some d=>d::l
    |none=>l
  |none=>l
def AV (P:Program) (n:Nat) (ops:Array Oper) (st:Nat):List Nat->Array Bool->b1->List Value->Option (b1×List (Ask×Value)×List (List (List Value)))
  |
    [],_,σ,_=>some (σ,[],[])
  |i::is,l,σ,ei=>
    bif AW ops st l i [i]&&zy P ops σ i then
      match nC P n ops i 1 σ ei (Qg ops i (mv σ.env)) 1000 with
      |none=>none
      |some z=>(AV P n ops st is (l.setIfInBounds i true) z.1 (ei.drop z.2.length)).map fun x=>(x.1,z.2++x.2.1,σ.aM::x.2.2)
    else none
theorem fr.app {P:Program} {u:World} {N:au}:∀{l r:List (Ask×Value)},fr P u N (l++r)->fr P u N l/\fr P u N r
  |[],_,h=>⟨trivial,h⟩
  |_::_,_,h=>⟨⟨h.1,(fr.app h.2).1⟩,(fr.app h.2).2⟩
theorem aaW {i k:Nat} {c8:List Value} {keep:List Nat} {m:Nat} {z:b1×List (Ask×Value)} (h:nC P n ops i k σ c8 keep m=some z):nC P n ops i k σ (z.2.map (·.2)) keep m=some z:=by
  unfold nC at h ⊢
  cases hb:Nat.ble (i+k) ops.size
  · rw [hb] at h;cases h
  · rw [hb] at h
    simp only [cond_true,Option.map_eq_some_iff] at h ⊢
    obtain⟨x,h1,an⟩:=h
    subst an
    exact⟨x,xD _ _ _ x h1,rfl⟩
theorem aj.Sz {aM:List (List Value)}:∀(is:List Nat) (b9:Array Bool) (σ:b1) (ei:List Value) (z:b1×List (Ask×Value)×List (List (List Value))) (a:Act) (f:Nat),aj P n w0 M u N β σ a w->AV P n ops st is b9 σ ei=some z->fr P u N z.2.1->z.2.2=List.replicate is.length aM->
    (∀a0,aj P n w0 M u N β z.1 a0 w->ar P ops cd st (e6 w0 M u N β aM) f (q1 b9 is) a0 w)->ar P ops cd st (e6 w0 M u N β aM) (f+is.length) b9 a w
  |
    [],b9,σ,ei,z,a,f,S,h,_,_,K=>by
    simp only [AV,Option.some.injEq] at h
    subst h
    exact K a S
  |i::is,b9,σ,ei,z,a,f,S,h,a9,hb,K=>by
    unfold AV at h
    cases hc:(AW ops st b9 i [i]&&zy P ops σ i)
    · rw [hc] at h;cases h
    · rw [hc] at h
      simp only [cond_true] at h
      rw [Bool.and_eq_true] at hc
      split at h
      · cases h
      · rename_i y hy
        rw [Option.map_eq_some_iff] at h
        obtain⟨x,h1,an⟩:=h
        subst an
        simp only [List.length_cons,List.replicate_succ,List.cons.injEq] at hb
        obtain⟨I8,ad0⟩:=hb
        subst I8
        obtain⟨ae,gy⟩:=fr.app a9
        exact aj.hoist (keep:=Qg ops i (mv σ.env)) (m:=1000) S hc.1 hc.2 ae (aaW hy) fun a0 dR=>aj.Sz is _ y.1 _ x a0 f dR h1 gy ad0 K
theorem aj.hm {aM:List (List Value)} (S:aj P n w0 M u N β σ a w) {f1:Nat} {b9:Array Bool} (f:Nat) (is:List Nat) (dH:List Nat) (new:Env) {claims:List (Ask×Value)} (a9:fr P u N claims)
    (K:∀a0,aj P n w0 M u N β (σ.xf dH new) a0 w->ar P ops cd st (e6 w0 M u N β aM) f (q1 b9 is) a0 w)
    (bV:(AV P n ops st is b9 σ (claims.map (·.2))).map (fun x=>((⟨x.1.keep 1000 (rq σ.env dH new++mv new),x.1.aM.take 1000⟩:b1),x.2))=some (σ.xf dH new,claims,List.replicate is.length aM):=by kernel_rfl) (bf:f1=f+is.length:=by kernel_rfl):ar P ops cd st (e6 w0 M u N β aM) f1 b9 a w:=by
  subst bf
  rw [Option.map_eq_some_iff] at bV
  obtain⟨x,h1,an⟩:=bV
  simp only [Prod.mk.injEq] at an
  obtain⟨ct,cA⟩:=an
  exact aj.Sz is b9 σ _ x a f S h1 (by rw [cA];exact a9) (by rw [cA]) fun a0 dR=>K a0 (ct▸dR.NB 1000 (rq σ.env dH new++mv new))
def nf (eA:List (Nat×Bool)) (i:Nat) (d:Option Nat) (σ:b1):b1×List (Bool×Bool):=
  match KS eA i,d with
  |some b,some d=>match look σ.env d with
    |some (.v (.bool c))=>(⟨(d,.v (.bool b))::σ.env,σ.aM⟩,[(c,b)])
    |_=>(σ,[])
  |_,_=>(σ,[])
theorem aj.nf (S:aj P n w0 M u N β σ a w) {eA:List (Nat×Bool)} {i:Nat} {d:Option Nat} (h:jN (nf eA i d σ).2):aj P n w0 M u N β (Go.Proofs.YtjlocpdfcanlhaaGreat.nf eA i d σ).1 a w:=by
  unfold Go.Proofs.YtjlocpdfcanlhaaGreat.nf at h ⊢
  split
  · rename_i b d hb
    simp only [hb] at h
    split
    · rename_i c hc
      simp only [hc] at h
      have e:c=b:=h.1
      subst e
      refine⟨S.l_,S.aW,fun t s bs=>?_,fun t k o bs=>?_,S.box,S.inj,S.new,S.sep,S.fp,S.k3⟩
      · rw [pt] at bs
        split at bs
        · rename_i e;subst e
          simp only [Option.some.injEq] at bs
          subst bs
          exact S.env _ _ hc
        · exact S.env t s bs
      · rw [pt] at bs
        split at bs
        · simp only [Option.some.injEq] at bs;cases bs
        · exact S.ok t k o bs
    · exact S
  · exact S
def sX (ops:Array Oper) (i:Nat):Option Nat:=(ops[i]?).bind (·.dst)
def qd (P:Program) (n:Nat) (ops:Array Oper) (st:Nat) (β:Nat->Nat) (eA:List (Nat×Bool)):List Nat->Array Bool->b1->Option (b1×List (Bool×Bool))
  |
    [],_,σ=>some (σ,[])
  |i::r,l,σ=>bif BN ops st l i&&Ft P ops β σ i then
      match gA P n ops ((ops.toList.drop i).take 1) σ [] with
      |some (bH,[])=>(qd P n ops st β eA r (l.setIfInBounds i true) (nf eA i (sX ops i) bH).1).map fun z=>(z.1,(nf eA i (sX ops i) bH).2++z.2)
      |_=>none
    else none
theorem aj.D9 {eA:List (Nat×Bool)}:∀(hs:List Nat) (b9:Array Bool) (σ:b1) (z:b1×List (Bool×Bool)) (a:Act) (f:Nat),aj P n w0 M u N β σ a w->(b9.getD st false=false->C w)->qd P n ops st β eA hs b9 σ=some z->jN z.2->
    (∀a0,aj P n w0 M u N β z.1 a0 w->ar P ops cd st C f (q1 b9 hs) a0 w)->ar P ops cd st C (f+hs.length) b9 a w
  |
    [],b9,σ,z,a,f,S,bk,h,hb,K=>by
    simp only [qd,Option.some.injEq] at h
    subst h
    exact K a S
  |i::r,b9,σ,z,a,f,S,bk,h,nO,K=>by
    simp only [qd] at h
    cases hb:(BN ops st b9 i&&Ft P ops β σ i) with
    |false=>rw [hb] at h;cases h
    |true=>
      rw [hb] at h
      simp only [cond_true] at h
      simp only [Bool.and_eq_true] at hb
      split at h
      · rename_i bH he
        refine S.aeD hb.1 hb.2 bk he fun mI ik=>?_
        have vG:i≠st:=fun e=>by
          have b2:=hb.1
          simp only [BN,Bool.and_eq_true,Bool.not_eq_true'] at b2
          rw [e,Nat.beq_refl] at b2
          cases b2.2
        cases ed:qd P n ops st β eA r (b9.setIfInBounds i true) (Go.Proofs.YtjlocpdfcanlhaaGreat.nf eA i (sX ops i) bH).1 with
        |none=>rw [ed] at h;cases h
        |some F6=>
          rw [ed] at h
          simp only [Option.map_some,Option.some.injEq] at h
          subst h
          exact aj.D9 r _ _ F6 mI f (ik.nf nO.left) (fun cl=>bk (by rwa [getD_set_ne false vG] at cl)) ed nO.right K
      · cases h
theorem aj.ako {W:Nat->Array Bool->Act->World->Prop} (S:aj P n w0 M u N β σ a w) (aH:W=ar P ops cd st C) (hs:List Nat) (eA:List (Nat×Bool)) {na:List (Bool×Bool)} {f f1:Nat} {l l2:Array Bool} (bk:l.getD st false=false->C w) (nO:jN na)
    (K:∀a0,aj P n w0 M u N β σ' a0 w->W f l2 a0 w)
    (bV:((qd P n ops st β eA hs l σ).bind fun s=>(rb s.1 (mv σ'.env) σ'.aM.length).map fun x=>(x,s.2))=some (σ',na):=by kernel_rfl) (hl:q1 l hs=l2:=by kernel_rfl) (bf:f1=f+hs.length:=by kernel_rfl):ar P ops cd st C f1 l a w:=by
  subst bf aH hl
  cases he:qd P n ops st β eA hs l σ with
  |none=>rw [he] at bV;cases bV
  |some s=>
    rw [he] at bV
    simp only [Option.bind_some] at bV
    cases bD:rb s.1 (mv σ'.env) σ'.aM.length with
    |none=>rw [bD] at bV;cases bV
    |some x=>
      rw [bD] at bV
      simp only [Option.map_some,Option.some.injEq,Prod.mk.injEq] at bV
      obtain⟨ct,cA⟩:=bV
      subst ct
      exact aj.D9 hs l σ s a f S bk he (cA▸nO) fun a0 dR=>K a0 (dR.prune bD)
theorem aj.cZ {W:Nat->Array Bool->Act->World->Prop} (S:aj P n w0 M u N β σ a w) (aH:W=ar P ops cd st C) (hs:List Nat) {f f1:Nat} {l l2:Array Bool} (bk:l.getD st false=false->C w)
    (K:∀a0,aj P n w0 M u N β σ' a0 w->W f l2 a0 w)
    (bV:((qd P n ops st β [] hs l σ).bind fun s=>(rb s.1 (mv σ'.env) σ'.aM.length).map fun x=>(x,s.2))=some (σ',[]):=by kernel_rfl) (hl:q1 l hs=l2:=by kernel_rfl) (bf:f1=f+hs.length:=by kernel_rfl):ar P ops cd st C f1 l a w:=S.ako aH hs [] bk .nil K bV hl bf
abbrev d_ (bx:au) (bA:World) (N:au) (u:World):Prop:=∀b,bx b->N b/\u.heap[b]? =bA.heap[b]?
abbrev cS (m:Nat) (bS β:Nat->Nat):Prop:=∀k,k<m->β k=bS k
theorem ar.VK {bA:World} {bx:au} {bS:Nat->Nat} {aM:List (List Value)} {f:Nat} {l:Array Bool} (S:aj P n w0 M u N β σ a w) (up:d_ bx bA N u) (mn:cS aM.length bS β) (jG:σ.aM.take aM.length=aM)
    (h:e6 w0 M bA bx bS aM w->ar P ops cd st (e6 w0 M bA bx bS aM) f l a w):(l.getD st false=false->e6 w0 M bA bx bS aM w)/\ar P ops cd st (e6 w0 M bA bx bS aM) f l a w:=by
  have bk:e6 w0 M bA bx bS aM w:=⟨fun k cs hk=>by
      have eP:=(List.getElem?_eq_some_iff.1 hk).1
      rw [←mn k eP]
      refine S.box k cs ?_
      rw [←jG,List.getElem?_take_of_lt eP] at hk
      exact hk,fun b hb=>⟨(S.sep b (up b hb).1).1,((S.sep b (up b hb).1).2.1).trans (up b hb).2⟩,S.fp⟩
  exact⟨fun _=>bk,h bk⟩
def xB (P:Program) (n:Nat) (ops:Array Oper) (i:Nat) (σ:b1) (c8:List Value):Option (b1×List (Ask×Value)):=
  match (ops.toList.drop i).take 1 with
  |[o]=>gA P n ops [o] σ c8
  |_=>none
theorem QI {i:Nat} {c8:List Value} {r:b1×List (Ask×Value)} (h:xB P n ops i σ c8=some r):∃o,ops[i]? =some o/\gA P n ops [o] σ c8=some r:=by
  unfold xB at h
  split at h
  · rename_i o bM
    refine⟨o,?_,h⟩
    have h1:((ops.toList.drop i).take 1)[0]? =some o:=by rw [bM];rfl
    rw [List.getElem?_take_of_lt (by omega),List.getElem?_drop] at h1
    simpa using h1
  · cases h
def xC (P:Program) (n:Nat) (ops:Array Oper) (st:Nat) (β:Nat->Nat) (i:Nat) (hs:List Nat) (eA:List (Nat×Bool)) (l:Array Bool) (σ:b1) (c8:List Value) (keep:List Nat) (m:Nat):Option (b1×List (Ask×Value)×List (Bool×Bool)):=
  match xB P n ops i σ c8 with
  |some r=>(qd P n ops st β eA hs (l.setIfInBounds i true) (nf eA i (sX ops i) r.1).1).bind fun s=>(rb s.1 keep m).map fun x=>(x,r.2,(nf eA i (sX ops i) r.1).2++s.2)
  |none=>none
theorem Dz {i:Nat} {hs keep:List Nat} {eA:List (Nat×Bool)} {l:Array Bool} {c8:List Value} {m:Nat} {claims:List (Ask×Value)} {na:List (Bool×Bool)} (h:xC P n ops st β i hs eA l σ c8 keep m=some (σ',claims,na)):
    ∃s1 s2,xB P n ops i σ c8=some (s1,claims)/\qd P n ops st β eA hs (l.setIfInBounds i true) (nf eA i (sX ops i) s1).1=some s2/\rb s2.1 keep m=some σ'/\na=(nf eA i (sX ops i) s1).2++s2.2:=by
  unfold xC at h
  split at h
  · rename_i r bn
    cases an:qd P n ops st β eA hs (l.setIfInBounds i true) (nf eA i (sX ops i) r.1).1 with
    |none=>rw [an] at h;cases h
    |some s2=>
      rw [an] at h
      simp only [Option.bind_some] at h
      cases aF:rb s2.1 keep m with
      |none=>rw [aF] at h;cases h
      |some nr=>
        rw [aF] at h
        simp only [Option.map_some,Option.some.injEq,Prod.mk.injEq] at h
        exact⟨r.1,s2,by rw [bn,←h.2.1],an,by rw [aF,h.1],h.2.2.symm⟩
  · cases h
theorem ar.ajX {cJ:Nat->Nat} {aM:List (List Value)} {f:Nat} {l:Array Bool} (dR:aj P n w0 M u N cJ σ' a w) (mn:∀k,k<σ.aM.length->cJ k=β k)
    (h:ar P ops cd st (e6 w0 M u N cJ σ'.aM) f l a w) (hb:σ.aM=aM:=by kernel_rfl) (jG:σ'.aM.take aM.length=aM:=by kernel_rfl):(l.getD st false=false->e6 w0 M u N β aM w)/\ar P ops cd st (e6 w0 M u N β aM) f l a w:=
  ar.stay dR (fun k hk=>mn k (by rw [hb];exact hk)) (fun k cs hk=>by
    have eP:=(List.getElem?_eq_some_iff.1 hk).1
    rw [←jG,List.getElem?_take_of_lt eP] at hk
    exact hk) h
theorem aj.aks {W:Nat->Array Bool->Act->World->Prop} {bA:World} {bx:au} {bS:Nat->Nat} {aM:List (List Value)} (S:aj P n w0 M u N β σ a w) (aH:W=ar P ops cd st (e6 w0 M bA bx bS aM)) (up:d_ bx bA N u) (mn:cS aM.length bS β)
    {i:Nat} (hs:List Nat) (eA:List (Nat×Bool)) {na:List (Bool×Bool)} {claims:List (Ask×Value)} (a9:fr P u N claims) (nO:jN na) {f f1:Nat} {l l2:Array Bool}
    (K:∀a0 w' cJ,aj P n w0 M u N cJ σ' a0 w'->cS aM.length bS cJ->W f l2 a0 w')
    (bV:∀cJ,xC P n ops st cJ i hs eA l σ (claims.map (·.2)) (mv σ'.env) σ'.aM.length=some (σ',claims,na):=by intro cJ;kernel_rfl)
    (jG:((xB P n ops i σ (claims.map (·.2))).map fun r=>r.1.aM.take aM.length)=some aM:=by kernel_rfl) (Je:Nat.ble aM.length σ.aM.length=true:=by kernel_rfl) (hl:q1 (l.setIfInBounds i true) hs=l2:=by kernel_rfl) (bf:f1=f+hs.length:=by kernel_rfl):
    wpOp P ops (k9 cd) i (fun a0 w'=>((l.setIfInBounds i true).getD st false=false->e6 w0 M bA bx bS aM w')/\ar P ops cd st (e6 w0 M bA bx bS aM) f1 (l.setIfInBounds i true) a0 w') a w:=by
  subst bf aH hl
  obtain⟨s1,s2,h1,an,aF,b2⟩:=Dz (bV β)
  obtain⟨o,bM,he⟩:=QI h1
  refine H7 bM he a9 S fun mI aZ zb ik hb=>?_
  obtain⟨ai4,Nd,uW,IF,IG,II⟩:=Dz (bV zb)
  rw [h1] at uW
  simp only [Option.some.injEq,Prod.mk.injEq,and_true] at uW
  subst uW
  have an1:aM.length<=σ.aM.length:=Nat.le_of_ble_eq_true Je
  have S1:cS aM.length bS zb:=fun k hk=>(hb k (by omega)).trans (mn k hk)
  rw [h1] at jG
  simp only [Option.map_some,Option.some.injEq] at jG
  rw [II] at nO
  exact ar.VK ik up S1 jG fun bk=>aj.D9 hs _ _ Nd mI f (ik.nf nO.left) (fun _=>bk) IF nO.right fun a0 dR=>K a0 aZ zb (dR.prune IG) S1
theorem aj.akq {W:Nat->Array Bool->Act->World->Prop} (S:aj P n w0 M u N β σ a w) (aH:W=ar P ops cd st C)
    {i:Nat} (hs:List Nat) (eA:List (Nat×Bool)) {na:List (Bool×Bool)} {claims:List (Ask×Value)} (a9:fr P u N claims) (nO:jN na) {f f1:Nat} {l l2:Array Bool}
    (K:∀a0 w' cJ,aj P n w0 M u N cJ σ' a0 w'->W f l2 a0 w')
    (bV:∀cJ,xC P n ops st cJ i hs eA l σ (claims.map (·.2)) (mv σ'.env) σ'.aM.length=some (σ',claims,na):=by intro cJ;kernel_rfl)
    (m3:(l.setIfInBounds i true).getD st false=true:=by kernel_rfl) (hl:q1 (l.setIfInBounds i true) hs=l2:=by kernel_rfl) (bf:f1=f+hs.length:=by kernel_rfl):
    wpOp P ops (k9 cd) i (fun a0 w'=>((l.setIfInBounds i true).getD st false=false->C w')/\ar P ops cd st C f1 (l.setIfInBounds i true) a0 w') a w:=by
  subst bf aH hl
  obtain⟨s1,s2,h1,an,aF,b2⟩:=Dz (bV β)
  obtain⟨o,bM,he⟩:=QI h1
  refine H7 bM he a9 S fun mI aZ zb ik hb=>?_
  obtain⟨ai4,Nd,uW,IF,IG,II⟩:=Dz (bV zb)
  rw [h1] at uW
  simp only [Option.some.injEq,Prod.mk.injEq,and_true] at uW
  subst uW
  rw [II] at nO
  have bk:(l.setIfInBounds i true).getD st false=false->C aZ:=fun h=>by rw [m3] at h;cases h
  exact⟨bk,aj.D9 hs _ _ Nd mI f (ik.nf nO.left) bk IF nO.right fun a0 dR=>K a0 aZ zb (dR.prune IG)⟩
theorem aj.e0 {W:Nat->Array Bool->Act->World->Prop} {bA:World} {bx:au} {bS:Nat->Nat} {aM:List (List Value)} (S:aj P n w0 M u N β σ a w) (aH:W=ar P ops cd st (e6 w0 M bA bx bS aM)) (up:d_ bx bA N u) (mn:cS aM.length bS β)
    {i:Nat} (hs:List Nat) {claims:List (Ask×Value)} (a9:fr P u N claims) {f f1:Nat} {l l2:Array Bool}
    (K:∀a0 w' cJ,aj P n w0 M u N cJ σ' a0 w'->cS aM.length bS cJ->W f l2 a0 w')
    (bV:∀cJ,xC P n ops st cJ i hs [] l σ (claims.map (·.2)) (mv σ'.env) σ'.aM.length=some (σ',claims,[]):=by intro cJ;kernel_rfl)
    (jG:((xB P n ops i σ (claims.map (·.2))).map fun r=>r.1.aM.take aM.length)=some aM:=by kernel_rfl) (Je:Nat.ble aM.length σ.aM.length=true:=by kernel_rfl) (hl:q1 (l.setIfInBounds i true) hs=l2:=by kernel_rfl) (bf:f1=f+hs.length:=by kernel_rfl):
    wpOp P ops (k9 cd) i (fun a0 w'=>((l.setIfInBounds i true).getD st false=false->e6 w0 M bA bx bS aM w')/\ar P ops cd st (e6 w0 M bA bx bS aM) f1 (l.setIfInBounds i true) a0 w') a w:=S.aks aH up mn hs [] a9 .nil K bV jG Je hl bf
theorem aj.wl {W:Nat->Array Bool->Act->World->Prop} (S:aj P n w0 M u N β σ a w) (aH:W=ar P ops cd st C)
    {i:Nat} (hs:List Nat) {claims:List (Ask×Value)} (a9:fr P u N claims) {f f1:Nat} {l l2:Array Bool}
    (K:∀a0 w' cJ,aj P n w0 M u N cJ σ' a0 w'->W f l2 a0 w')
    (bV:∀cJ,xC P n ops st cJ i hs [] l σ (claims.map (·.2)) (mv σ'.env) σ'.aM.length=some (σ',claims,[]):=by intro cJ;kernel_rfl)
    (m3:(l.setIfInBounds i true).getD st false=true:=by kernel_rfl) (hl:q1 (l.setIfInBounds i true) hs=l2:=by kernel_rfl) (bf:f1=f+hs.length:=by kernel_rfl):
    wpOp P ops (k9 cd) i (fun a0 w'=>((l.setIfInBounds i true).getD st false=false->C w')/\ar P ops cd st C f1 (l.setIfInBounds i true) a0 w') a w:=S.akq aH hs [] a9 .nil K bV m3 hl bf
section
variable {W:Nat->Array Bool->Act->World->Prop} {f:Nat} {l:Array Bool}
abbrev qD (P:Program) (ops:Array Oper) (cd:Act->World->Prop) (st:Nat) (C:World->Prop) (f:Nat) (l:Array Bool) (a:Act) (w:World) (i:Nat):Prop:=
  wpOp P ops (k9 cd) i (fun a0 w'=>((l.setIfInBounds i true).getD st false=false->C w')/\ar P ops cd st C f (l.setIfInBounds i true) a0 w') a w
theorem en (aH:W=ar P ops cd st C) (i:Nat) (h:qD P ops cd st C f l a w i) (bn:Region.ready .any ops l=[i]:=by kernel_rfl):W (f+1) l a w:=by
  subst aH;exact ar.one bn h
theorem gx (aH:W=ar P ops cd st C) (i j:Nat) (h:qD P ops cd st C f l a w i) (an:qD P ops cd st C f l a w j) (bn:Region.ready .any ops l=[i,j]:=by kernel_rfl):W (f+1) l a w:=by
  subst aH;exact ar.many bn rfl (List.forall_mem_cons.2 ⟨h,List.forall_mem_cons.2 ⟨an,List.forall_mem_nil _⟩⟩)
theorem ra (aH:W=ar P ops cd st C) (i j k:Nat) (h:qD P ops cd st C f l a w i) (an:qD P ops cd st C f l a w j) (aF:qD P ops cd st C f l a w k) (bn:Region.ready .any ops l=[i,j,k]:=by kernel_rfl):W (f+1) l a w:=by
  subst aH;exact ar.many bn rfl (List.forall_mem_cons.2 ⟨h,List.forall_mem_cons.2 ⟨an,List.forall_mem_cons.2 ⟨aF,List.forall_mem_nil _⟩⟩⟩)
theorem UN (aH:W=ar P ops cd st C) (i j k m:Nat) (h:qD P ops cd st C f l a w i) (an:qD P ops cd st C f l a w j) (aF:qD P ops cd st C f l a w k) (b2:qD P ops cd st C f l a w m) (bn:Region.ready .any ops l=[i,j,k,m]:=by kernel_rfl):W (f+1) l a w:=by
  subst aH;exact ar.many bn rfl (List.forall_mem_cons.2 ⟨h,List.forall_mem_cons.2 ⟨an,List.forall_mem_cons.2 ⟨aF,List.forall_mem_cons.2 ⟨b2,List.forall_mem_nil _⟩⟩⟩⟩)
theorem nb (aH:W=ar P ops cd st C) (h:cd a w) (bn:Region.ready .any ops l=[]:=by kernel_rfl):W f l a w:=by
  subst aH;exact ar.done bn h f
end
theorem ar.c9 {f:Nat} {l:Array Bool} (h:(l.getD st false=false->C w)->ar P ops cd st C f l a w) (m3:l.getD st false=true:=by kernel_rfl):(l.getD st false=false->C w)/\ar P ops cd st C f l a w:=
  ⟨fun h0=>(by rw [m3] at h0;cases h0),h fun h0=>(by rw [m3] at h0;cases h0)⟩
theorem ar.dh {bA:World} {bx:au} {bS:Nat->Nat} {aM:List (List Value)} {f:Nat} {l:Array Bool} (S:aj P n w0 M u N β σ a w) (up:d_ bx bA N u) (mn:cS aM.length bS β)
    (h:(l.getD st false=false->e6 w0 M bA bx bS aM w)->ar P ops cd st (e6 w0 M bA bx bS aM) f l a w) (jG:σ.aM.take aM.length=aM:=by kernel_rfl):(l.getD st false=false->e6 w0 M bA bx bS aM w)/\ar P ops cd st (e6 w0 M bA bx bS aM) f l a w:=ar.VK S up mn jG fun bk=>h fun _=>bk
end
end Go.Proofs.YtjlocpdfcanlhaaGreat
namespace Go.Proofs.YtjlocpdfcanlhaaGreat
open Go
set_option linter.unusedVariables false
section
variable {P:Program} {n:Nat} {w0:World} {M:au} {u:World} {N:au} {β:Nat->Nat} {σ:b1} {a:Act} {w:World} {ops:Array Oper} {cd:Act->World->Prop} {C:World->Prop} {st:Nat}
theorem aj.iI {aM:List (List Value)} (S:aj P n w0 M u N β σ a w) {f:Nat} {l:Array Bool} (i:Nat) (dH:List Nat) (new:Env) (m:Nat) (o3:List (Nat×List Value)) {claims:List (Ask×Value)} (a9:fr P u N claims)
    (K:∀a0 w' cJ,aj P n w0 M u N cJ (σ.dl dH new m o3) a0 w'->ar P ops cd st (e6 w0 M u N cJ (σ.dl dH new m o3).aM) f (l.setIfInBounds i true) a0 w')
    (bV:nC P n ops i 1 σ (claims.map (·.2)) (rq σ.env dH new++mv new) m=some (σ.dl dH new m o3,claims):=by kernel_rfl)
    (hb:σ.aM=aM:=by kernel_rfl) (jG:(σ.dl dH new m o3).aM.take aM.length=aM:=by kernel_rfl) (bn:Region.ready .any ops l=[i]:=by kernel_rfl):ar P ops cd st (e6 w0 M u N β aM) (f+1) l a w:=
  ar.one bn (S.VM a9 bV fun a0 w' cJ dR mn=>ar.ajX dR mn (K a0 w' cJ dR) hb jG)
theorem aj.c9 (S:aj P n w0 M u N β σ a w) {f:Nat} {l:Array Bool} (i:Nat) (dH:List Nat) (new:Env) (m:Nat) (o3:List (Nat×List Value)) {claims:List (Ask×Value)} (a9:fr P u N claims)
    (K:∀a0 w' cJ,aj P n w0 M u N cJ (σ.dl dH new m o3) a0 w'->ar P ops cd st C f (l.setIfInBounds i true) a0 w')
    (bV:nC P n ops i 1 σ (claims.map (·.2)) (rq σ.env dH new++mv new) m=some (σ.dl dH new m o3,claims):=by kernel_rfl)
    (m3:(l.setIfInBounds i true).getD st false=true:=by kernel_rfl) (bn:Region.ready .any ops l=[i]:=by kernel_rfl):ar P ops cd st C (f+1) l a w:=
  ar.one bn (S.VM a9 bV fun a0 w' cJ dR mn=>ar.last m3 (K a0 w' cJ dR))
end
def oQ (i j k:Nat):Nat:=bif Nat.beq k i then j else bif Nat.beq k j then i else k
theorem Nv (i j k:Nat):oQ i j k=if k=i then j else if k=j then i else k:=by
  unfold oQ
  by_cases h:k=i
  · subst h;simp
  · have h1:Nat.beq k i=false:=by cases hb:Nat.beq k i with|false=>rfl|true=>exact absurd (Nat.eq_of_beq_eq_true hb) h
    rw [h1,cond_false,if_neg h]
    by_cases an:k=j
    · subst an;simp
    · have aF:Nat.beq k j=false:=by cases hb:Nat.beq k j with|false=>rfl|true=>exact absurd (Nat.eq_of_beq_eq_true hb) an
      rw [aF,cond_false,if_neg an]
theorem Nw (i j k:Nat):oQ i j (oQ i j k)=k:=by
  simp only [Nv]
  repeat' split
  all_goals omega
theorem y6 {i j k n:Nat} (hi:i<n) (b0:j<n) (hk:k<n):oQ i j k<n:=by
  rw [Nv];repeat' split
  all_goals omega
def eJ.FV (i j:Nat):eJ->eJ
  | .v x=> .v x
  | .p k o=> .p (oQ i j k) o
def y5 (i j:Nat):Env->Env
  |[]=>[]
  |(t,s)::r=>(t,s.FV i j)::y5 i j r
def b1.wH (σ:b1) (i j:Nat):b1:=⟨y5 i j σ.env,(List.range σ.aM.length).map fun k=>σ.aM.getD (oQ i j k) []⟩
theorem KV {i j t:Nat}:∀e:Env,look (y5 i j e) t=(look e t).map (eJ.FV i j)
  |
    []=>rfl
  |(s,x)::r=>by
    simp only [y5,pt]
    split
    · rfl
    · exact KV r
section
variable {P:Program} {n:Nat} {w0:World} {M:au} {u:World} {N:au} {β:Nat->Nat} {σ:b1} {a:Act} {w:World}
theorem aj.wH (S:aj P n w0 M u N β σ a w) (i j:Nat) (hi:Nat.blt i σ.aM.length=true:=by kernel_rfl) (b0:Nat.blt j σ.aM.length=true:=by kernel_rfl):aj P n w0 M u N (fun k=>β (oQ i j k)) (σ.wH i j) a w:=by
  have hi:i<σ.aM.length:=by simpa [Nat.blt_eq] using hi
  have b0:j<σ.aM.length:=by simpa [Nat.blt_eq] using b0
  have hl:(σ.wH i j).aM.length=σ.aM.length:=by simp [b1.wH]
  have b5:∀s:eJ,(s.FV i j).val (fun k=>β (oQ i j k))=s.val β:=fun s=>by
    cases s with
    |v x=>rfl
    |p k o=>show bg (β (oQ i j (oQ i j k))) o=bg (β k) o;rw [Nw]
  refine⟨S.l_,S.aW,fun t s bs=>?_,fun t k o bs=>?_,fun k cs hk=>?_,fun x y hx hy h=>?_,fun k hk=>?_,fun b hb=>?_,S.fp,S.k3⟩
  · rw [show(σ.wH i j).env=y5 i j σ.env from rfl,KV] at bs
    cases hs:look σ.env t with
    |none=>rw [hs] at bs;cases bs
    |some ga=>
      rw [hs] at bs
      simp only [Option.map_some,Option.some.injEq] at bs
      subst bs
      rw [b5];exact S.env t ga hs
  · rw [show(σ.wH i j).env=y5 i j σ.env from rfl,KV] at bs
    rw [hl]
    cases hs:look σ.env t with
    |none=>rw [hs] at bs;cases bs
    |some ga=>
      rw [hs] at bs
      simp only [Option.map_some,Option.some.injEq] at bs
      cases ga with
      |v x=>cases bs
      |p J5 cv=>
        cases bs
        exact y6 hi b0 (S.ok t J5 o hs)
  · have Sp:k<σ.aM.length:=by rw [←hl];exact(List.getElem?_eq_some_iff.1 hk).1
    have aF:=y6 hi b0 Sp
    simp only [b1.wH,List.getElem?_map,List.getElem?_range Sp,Option.map_some,Option.some.injEq] at hk
    rw [List.getD_eq_getElem?_getD,List.getElem?_eq_getElem aF,Option.getD_some] at hk
    exact S.box _ cs (by rw [List.getElem?_eq_getElem aF,hk])
  · rw [hl] at hx hy
    have:=S.inj _ _ (y6 hi b0 hx) (y6 hi b0 hy) h
    rw [←Nw i j x,this,Nw]
  · rw [hl] at hk
    exact S.new _ (y6 hi b0 hk)
  · obtain⟨h1,an,aF⟩:=S.sep b hb
    exact⟨h1,an,fun k hk=>aF _ (y6 hi b0 (by rwa [hl] at hk))⟩
theorem cS.FV {m:Nat} {bS:Nat->Nat} (h:cS m bS β) (i j:Nat) (hi:Nat.ble m i=true:=by kernel_rfl) (b0:Nat.ble m j=true:=by kernel_rfl):cS m bS (fun k=>β (oQ i j k)):=fun k hk=>by
  have h1:=Nat.le_of_ble_eq_true hi
  have an:=Nat.le_of_ble_eq_true b0
  show β (oQ i j k)=bS k
  rw [Nv,if_neg (by omega),if_neg (by omega)]
  exact h k hk
end
end Go.Proofs.YtjlocpdfcanlhaaGreat
namespace Go.Proofs.YtjlocpdfcanlhaaGreat
open Go
set_option linter.unusedVariables false
set_option linter.unusedSimpArgs false
def amT (n a b:Int):Int:=if b<a\/n<a then a else if n>b then b else n
def gB (b:cP) (g:Int) (x:ax):cP:=if 0<=g/\g<b.U.length then⟨b.mem,b.U.set g.toNat x,b.outs,b.aB⟩ else b
def xE (b:cP) (g:Int) (c:Bool) (F:ax->ax):cP×Bool:=
  if jz b=true/\(0<=g/\g<b.U.length)/\c=true then(⟨b.mem,b.U.set g.toNat (F (el b.U g.toNat)),b.outs,b.aB⟩,true) else(b,false)
def Ib (x:aO):cP:=⟨List.replicate 8 (List.replicate 4 0),x.U,x.outs,x.aB⟩
def aa3 (h:ah) (m:Int) (b:cP):ah:=⟨h.mem,h.I.set m.toNat {el h.I m.toNat with U:=b.U,aB:=b.aB},h.buf,h.ag⟩
def xH (h:ah) (m:Int):Bool:=eD h&&a3 m 0 ((h.I.length:Int)-1)
theorem EH {h:ah} {m:Int} (e:xH h m=true):eD h=true/\0<=m/\m<h.I.length:=by
  simp only [xH,Bool.and_eq_true] at e
  have:=cU e.2
  exact⟨e.1,by omega,by omega⟩
theorem afI {h:ah} {m:Int} (e:eD h=true/\0<=m/\m<h.I.length):xH h m=true:=by
  simp only [xH,e.1,Bool.true_and,a3,Bool.and_eq_true,decide_eq_true_eq]
  omega
def qO (h:ah) (m:Int) (r:cP×Bool):ah×Bool:=
  if(eD h=true/\0<=m/\m<h.I.length)/\r.2=true then(aa3 h m r.1,true) else(h,false)
theorem Q_ {α β:Type} [GT α] {f:Option β->α->Option β} (cX:∀x,f none x=none):∀(xs:List α) (z:Option β),(xs.foldl f z).isSome=true->∀k,k<xs.length->∃u,(f (some u) (el xs k)).isSome=true
  |
    [],_,_,k,hk=>by simp at hk
  |x::r,z,h,k,hk=>by
    have dead:∀bj:List α,bj.foldl f none=none:=fun bj=>by
      induction bj with
      |nil=>rfl
      |cons y r gh=>simp only [List.foldl_cons,cX,gh]
    rw [List.foldl_cons] at h
    cases k with
    |zero=>
      cases z with
      |none=>rw [cX,dead] at h;cases h
      |some u=>
        refine⟨u,?_⟩
        show(f (some u) x).isSome=true
        cases e:f (some u) x with
        |none=>rw [e,dead] at h;cases h
        |some _=>rfl
    |succ k=>
      obtain⟨u,hu⟩:=Q_ cX r _ h k (by simpa using hk)
      exact⟨u,by rw [show el (x::r) (k+1)=el r k by simp [el]];exact hu⟩
theorem vL {h:ah} (e:eD h=true) {k:Nat} (hk:k<h.I.length):hP (el h.I k)=true:=by
  simp only [eD,Bool.and_eq_true] at e
  obtain⟨u,hu⟩:=Q_ Cp h.I _ e.2 k hk
  unfold pH at hu
  simp only [Option.bind_some] at hu
  split at hu
  · assumption
  · cases hu
theorem aiw {m:List (List Int)} {n p:Int} (h:h6 m n=true):hh (hg m p)=true:=by
  unfold hg
  split
  · simp only [h6,Bool.and_eq_true] at h
    exact sP h.1 (by omega)
  · decide
theorem aix {h:ah} (e:eD h=true) {m:Int} (hm:0<=m/\m<h.I.length) (p:Int):hh (oh h m p)=true:=by
  have D8:=vL e (k:=m.toNat) (by omega)
  have aeA:h6 h.mem 12=true:=by
    simp only [eD,p2,Bool.and_eq_true] at e
    exact e.1.1.1.1
  unfold oh
  split
  · rename_i bD
    split
    · exact aiw aeA
    · rename_i hs
      have bM:=(q3 D8).1
      have hpl:0<=p/\p<((el h.I m.toNat).outer.length:Int):=by omega
      have qX:=Cv (q3 D8).2 (k:=p.toNat) (by omega)
      have tl:nH (el h.I m.toNat) p.toNat=true:=by
        simp only [hP,Bool.and_eq_true] at D8
        exact FF D8.2 (by omega)
      have ct:eO (el h.I m.toNat).outer p=el (el h.I m.toNat).outer p.toNat:=by
        unfold eO;rw [if_pos hpl]
      rw [ct] at hs
      have aeS:el (el h.I m.toNat).outer p.toNat=⟨-1,0⟩:=by
        simp only [g5,Bool.or_eq_true,Bool.and_eq_true,decide_eq_true_eq] at qX
        rcases qX with qX|qX
        · exact qX
        · have:=cU qX.1.2
          exact absurd (by omega:(el (el h.I m.toNat).outer p.toNat).page≠ -1) hs
      unfold nH at tl
      rw [if_pos aeS] at tl
      unfold hg
      split
      · exact tl
      · decide
  · decide
theorem akm {x:aO} (h:hP x=true):jz (Ib x)=true:=by
  simp only [hP,og,qN,Bool.and_eq_true] at h
  simp only [jz,Ib,Bool.and_eq_true]
  exact⟨⟨⟨⟨h.1.2,by decide⟩,h.1.1.1.1.1.1.1⟩,h.1.1.2.1.1.1⟩,h.1.1.2.1.1.2⟩
theorem ajP {h:ah} (e:eD h=true) {m:Int} (hm:0<=m/\m<h.I.length):jz (e9 h m)=true:=by
  have b5:=akm (vL e (k:=m.toNat) (by omega))
  simp only [jz,Ib,Bool.and_eq_true] at b5
  unfold e9
  rw [if_pos hm]
  simp only [jz,Bool.and_eq_true]
  refine⟨⟨⟨⟨b5.1.1.1.1,?_⟩,b5.1.1.2⟩,b5.1.2⟩,b5.2⟩
  simp only [h6,Bool.and_eq_true,beq_iff_eq]
  refine⟨?_,by simp⟩
  rw [List.all_eq_true]
  intro x hx
  obtain⟨i,_,rfl⟩:=List.mem_map.1 hx
  exact aix e hm _
structure Loc (r:cP->cP×Bool):Prop where
  eq:∀b lI,jz b=jz lI->b.U=lI.U->b.outs=lI.outs->b.aB=lI.aB->(r b).2=(r lI).2/\(r b).1.U=(r lI).1.U/\(r b).1.aB=(r lI).1.aB
  no:∀b,(r b).2=false->(r b).1.U=b.U/\(r b).1.aB=b.aB
def aa5 (b:cP) (g:Int) (c:fo):cP×Bool:=xE b g (mS c) (fun x=>{x with aN:=c})
def amZ (h:ah) (m g:Int) (c:fo):ah×Bool:=qO h m (aa5 (e9 h m) g c)
def am4 (h:ah) (m n:Int):ah×Bool:=qO h m (aa7 (e9 h m) n)
def aa6 (b:cP) (g n:Int):cP×Bool:=xE b g (DC (a2 b g).1.aB n).2 (fun x=>{x with aB:=(DC (a2 b g).1.aB n).1})
def am2 (h:ah) (m g n:Int):ah×Bool:=qO h m (aa6 (e9 h m) g n)
def a4 (g:ax):ax:={g with aw:=if g.aw>=12 then 12 else g.aw+1}
def jA (g:ax):ax:=a4 {g with halted:=true}
def xF (b:cP) (g:Int):df:=(a2 b g).1.exit
def abp (kind:Int) (x:ax):ax:=if kind=4 then jA {x with exit:=⟨0,0,false,0⟩} else {x with exit:=⟨0,0,false,0⟩}
def aa8 (b:cP) (g:Int):cP×Bool:=xE b g ((xF b g).kind==1||(xF b g).kind==4) (fun x=>abp (xF b g).kind x)
def am6 (h:ah) (m g:Int):ah×Bool:=qO h m (aa8 (e9 h m) g)
def aa2 (kind v:Int) (x:ax):ax:=a4 {(if kind=2 then {x with acc:=v} else x) with exit:=⟨0,0,false,0⟩}
def aa4 (b:cP) (g v:Int):cP×Bool:=xE b g (((xF b g).kind==2||(xF b g).kind==3)&&a3 v 0 99) (fun x=>aa2 (xF b g).kind v x)
def amY (h:ah) (m g v:Int):ah×Bool:=qO h m (aa4 (e9 h m) g v)
def QU (t:List aQ) (p:Int) (s:aQ):List aQ:=if 0<=p/\p<t.length then t.set p.toNat s else t
def aa9 (b:cP) (g page:Int) (s:aQ):cP×Bool:=xE b g (a3 page 0 3&&g5 s 8) (fun x=>{x with written:=QU x.written page s})
def am7 (h:ah) (m g page:Int) (s:aQ):ah×Bool:=qO h m (aa9 (e9 h m) g page s)
end Go.Proofs.YtjlocpdfcanlhaaGreat
namespace Go.Proofs.YtjlocpdfcanlhaaGreat
open Go
set_option linter.unusedVariables false
set_option linter.unusedSimpArgs false
def h7 (e:aG) (tag page:Int):Bool:=(e.tag==tag)&&(e.page==page)
def jB (b:List aG) (p:aG->Bool):List aG:=b.filter fun e=>!p e
def cK (b:List aG) (tag page:Int):List aG:=jB b fun e=>h7 e tag page
theorem sJ {b:List aG} {p:aG->Bool} {k:Nat} (hk:k<b.length) (h:p (el b k)=true):jB (b.take (k+1)) p=jB (b.take k) p:=by
  unfold jB
  rw [jh hk,List.filter_append]
  simp [h]
theorem pJ {b:List aG} {p:aG->Bool} {k:Nat} (hk:k<b.length) (h:p (el b k)=false):jB (b.take (k+1)) p=jB (b.take k) p++[el b k]:=by
  unfold jB
  rw [jh hk,List.filter_append]
  simp [h]
theorem wK (b:List aG) (p:aG->Bool):(jB b p).length<=b.length:=List.length_filter_le _ _
theorem sC {e:aG} {tag page:Int} (h:¬e.tag=tag):h7 e tag page=false:=by simp [h7,h]
theorem wE {e:aG} {tag page:Int} (h:¬e.page=page):h7 e tag page=false:=by simp [h7,h]
theorem Cl {e:aG} {tag page:Int} (h:e.tag=tag) (an:e.page=page):h7 e tag page=true:=by simp [h7,h,an]
def bO (m g:Int):Int:=if(0<=m/\m<=2)/\0<=g/\g<=1 then 1+g+m*2 else 0
theorem FZ (m g:Int):a_ (bO m g):=by
  unfold bO
  split
  · exact⟨by omega,by omega⟩
  · exact⟨by decide,by decide⟩
def QP (b:cP) (g page:Int):cP×Bool:=xE b g (a3 page 0 3) (fun x=>{x with live:=QU x.live page (eO x.written page)})
def abc (h:ah) (m g page:Int):ah:=
  ⟨h.mem,h.I.set m.toNat {el h.I m.toNat with tables:=(el h.I m.toNat).tables.set g.toNat (j6 (el (el h.I m.toNat).tables g.toNat) page)},cK h.buf (bO m g) page,cK h.ag (bO m g) page⟩
def am1 (h:ah) (m g page:Int):ah×Bool:=
  if(qO h m (QP (e9 h m) g page)).2=true then(abc (qO h m (QP (e9 h m) g page)).1 m g page,true) else(h,false)
end Go.Proofs.YtjlocpdfcanlhaaGreat
namespace Go.Proofs.YtjlocpdfcanlhaaGreat
open Go
set_option linter.unusedVariables false
section
variable {w0:World} {M:au} {u:World} {N:au}
theorem J.sub {A B C:au} (d:J A B) (h:∀b,C b->B b):J A C:=fun b x y=>d b x (h b y)
def ov (p p':cb):Prop:=p'.I.1=p.I.1
theorem hp {α:Type} [GT α] {K:Nat} {xs:List α} {p:aC α} {H:l8} (h:p.1=H) (f:GT.rd K N u xs p):GT.rd K N u xs ((H,p.2):aC α):=h▸f
theorem abI {h:ah} {q:aC ah} {F:au} (o:ad w0 M u N F [h] q):
    ∃
      H:au,ad w0 M u N H h.I (q.2 0).I/\(∀b,H b->F b)/\∀(bI:World) (aA:au) (y:List aO) (cw:Nat->fj) (cI Fy:au),(∀b,N b->¬H b->aA b/\bI.heap[b]? =u.heap[b]?)->ad w0 M bI aA cI y (((q.2 0).I.1,cw):aC aO)->(∀b,cI b->H b\/Fy b)->J F Fy->y.length=h.I.length->(∀b,H b->aA b)->
      ∃ng:Nat->cb,ad w0 M bI aA (Or F cI) [{h with I:=y}] ((q.1,ng):aC ah)/\(ng 0).I.1=(q.2 0).I.1:=by
  obtain⟨H,h1,an,aF⟩:=abv o (k:=0) (Nat.succ_pos 0)
  exact⟨H,h1,an,fun bI aA y cw cI Fy a b c d e f=>⟨_,aF bI aA y ((q.2 0).I.1,cw) cI Fy a b c d (by show [R _ _]=[R _ _];rw [e];rfl) f,rfl⟩⟩
theorem P6 {K:Nat} {h:ah} {q:aC ah} (o:GT.rd K N u [h] q):GT.rd K N u h.mem (q.2 0).mem:=bz.mem (d:=h) (af.el o 0 (Nat.succ_pos 0))
theorem fs {K:Nat} {h:ah} {q:aC ah} (o:GT.rd K N u [h] q):GT.rd K N u h.I (q.2 0).I:=bz.I (d:=h) (af.el o 0 (Nat.succ_pos 0))
theorem hf {K:Nat} {a:List (List Int)} {b:List aO} {c d:List aG} {q:aC ah} (o:GT.rd K N u [(⟨a,b,c,d⟩:ah)] q):GT.rd K N u b (q.2 0).I:=fs o
theorem Dj {K:Nat} {h:ah} {q:aC ah} (o:GT.rd K N u [h] q):GT.rd K N u h.buf (q.2 0).buf:=bz.buf (d:=h) (af.el o 0 (Nat.succ_pos 0))
theorem P5 {K:Nat} {a:List (List Int)} {b:List aO} {c d:List aG} {q:aC ah} (o:GT.rd K N u [(⟨a,b,c,d⟩:ah)] q):GT.rd K N u c (q.2 0).buf:=Dj o
theorem Z9 {K:Nat} {h:ah} {q:aC ah} (o:GT.rd K N u [h] q):GT.rd K N u h.ag (q.2 0).ag:=bz.ag (d:=h) (af.el o 0 (Nat.succ_pos 0))
theorem Z8 {K:Nat} {a:List (List Int)} {b:List aO} {c d:List aG} {q:aC ah} (o:GT.rd K N u [(⟨a,b,c,d⟩:ah)] q):GT.rd K N u d (q.2 0).ag:=Z9 o
theorem rU {β:Type} [GT β] {h:ah} {q:aC ah} {F:au} {m:Nat} {L:List β} {pl:aC β} {NA:List β->aO} (o:ad w0 M u N F [h] q)
    (bf:∀F:au,ad w0 M u N F h.I (q.2 0).I->∃H:au,ad w0 M u N H L pl/\(∀b,H b->F b)/\∀(bI:World) (aA:au) (y:List β) (jd:aC β) (cI Fy:au),(∀b,N b->¬H b->aA b/\bI.heap[b]? =u.heap[b]?)->ad w0 M bI aA cI y jd->(∀b,cI b->H b\/Fy b)->J F Fy->GT.cells y jd=GT.cells L pl->(∀b,H b->aA b)->
      ∃cw,ad w0 M bI aA (Or F cI) (h.I.set m (NA y)) (((q.2 0).I.1,cw):aC aO)/\∀j,GT.cells (el (h.I.set m (NA y)) j) (cw j)=GT.cells (el h.I j) ((q.2 0).I.2 j)):
    ∃H:au,ad w0 M u N H L pl/\(∀b,H b->F b)/\∀(bI:World) (aA:au) (y:List β) (cw:Nat->GT.Ptr β) (cI Fy:au),(∀b,N b->¬H b->aA b/\bI.heap[b]? =u.heap[b]?)->ad w0 M bI aA cI y ((pl.1,cw):aC β)->(∀b,cI b->H b\/Fy b)->J F Fy->y.length=L.length->(∀b,N b->aA b)->
      ∃ng:Nat->cb,ad w0 M bI aA (Or F cI) [{h with I:=h.I.set m (NA y)}] ((q.1,ng):aC ah)/\(ng 0).I.1=(q.2 0).I.1:=by
  obtain⟨WJ,cm,a8,b4⟩:=abI o
  obtain⟨H,h1,an,aF⟩:=bf WJ cm
  refine⟨H,h1,fun b hb=>a8 b (an b hb),fun bI aA y cw cI Fy up tJ hs hd hl hN=>?_⟩
  obtain⟨BK,fW,_⟩:=aF bI aA y (pl.1,cw) cI Fy up tJ hs (fun b x z=>hd b (a8 b x) z) (by show [R _ _]=[R _ _];rw [hl]) (fun b hb=>hN b (cm.sub b (an b hb)))
  obtain⟨ng,aD,fe⟩:=b4 bI aA _ BK _ Fy (fun b hb cX=>up b hb fun bC=>cX (an b bC)) fW (fun b hb=>hb.elim .inl fun hb=>(hs b hb).imp (an b) id) hd (List.length_set) (fun b hb=>hN b (cm.sub b hb))
  exact⟨ng,⟨GT.fK aD.own (Nat.le_refl _) (fun b hb=>hb.elim .inl fun hb=>hb.imp (a8 b) id),fun b hb=>hb.elim (fun hb=>aD.sub b (.inl hb)) (fun hb=>aD.sub b (.inr (.inr hb))),fun b hb=>hb.elim (fun hb=>aD.dJ b (.inl hb)) (fun hb=>aD.dJ b (.inr (.inr hb)))⟩,fe⟩
def W0 {α:Type} [GT α] (ks F:au) (w:World) (r:α) (k:Int) (c:Bool) (e:Ending) (w':World):Prop:=
  ∃q bW,e= .returned (.tuple #[GT.val r q,aa k,B c])/\bu ks w w'/\GT.own b7 bW w' r q/\a_ k/\∀b,bW b->F b\/(w.heap.size<=b/\b<w'.heap.size)
section
variable {P:Program} {n:Nat} {β:Nat->Nat} {σ:b1} {a:Act} {w:World} {ops:Array Oper} {Q:Exit->Act->World->Prop} {di:Act->World->Prop}
end
theorem ad.c9 {α:Type} [GT α] {xs:List α} {p:aC α} {F:au} (o:ad w0 M u N F xs p) {a b:Nat} (ka:a<=b) (hb:b<=xs.length):ad w0 M u N F ((xs.drop a).take (b-a)) ((p.1.c9 a (GT.width α),fun i=>p.2 (a+i)):aC α):=by
  refine⟨?_,o.sub,o.dJ⟩
  have h:g1 b7 F u xs p:=o.own
  have hlen:((xs.drop a).take (b-a)).length=b-a:=by simp;omega
  have h_:∀i,i<b-a->el ((xs.drop a).take (b-a)) i=el xs (a+i):=fun i hi=>by
    unfold el
    rw [List.getD_eq_getElem?_getD,List.getD_eq_getElem?_getD,List.getElem?_take_of_lt hi,List.getElem?_drop]
  have vE:=h.cap
  obtain⟨G,cm,a8,b4⟩:=h.el
  show g1 b7 F u _ _
  refine⟨by have:=h.le;omega,by show _<=p.1.cap-a;omega,by show p.1.cap-a<=_;have:=h.o5;omega,fun z=>by show p.1.cap-a=0;have:=h.null z;omega,fun z=>?_,fun i hi=>?_,fun i=>G (a+i),fun i hi=>?_,fun i hi c hc=>?_,fun i j hi b0 r6=>?_⟩
  · obtain⟨kj,cs,T,oN,rp⟩:=h.row z
    refine⟨kj,cs,T,oN,?_⟩
    show(bif p.1.cap==a then p.1.off else p.1.off+a*GT.width α)+(p.1.cap-a)*GT.width α<=cs.size
    have cA:p.1.cap*GT.width α=a*GT.width α+(p.1.cap-a)*GT.width α:=by rw [←Nat.add_mul];congr 1;omega
    cases p.1.cap==a
    · simp only [cond_false];omega
    · simp only [cond_true];omega
  · rw [hlen] at hi
    rw [h_ i hi]
    have ct:(p.1.cap==a)=false:=by simp;omega
    have:=h.cell (a+i) (by omega)
    show kQ u p.1.b ((bif p.1.cap==a then p.1.off else p.1.off+a*GT.width α)+i*GT.width α) _
    rw [ct]
    simp only [cond_false]
    rw [Nat.add_assoc,←Nat.add_mul]
    exact this
  · rw [hlen] at hi
    rw [h_ i hi]
    exact cm (a+i) (by omega)
  · rw [hlen] at hi
    exact a8 (a+i) (by omega) c hc
  · rw [hlen] at hi b0
    exact b4 (a+i) (a+j) (by omega) (by omega) (by omega)
end
theorem Cn {X xs:List aO} {k:Nat} {y:List aQ} (h:X=xs.set k {el xs k with outer:=y}) (hk:k<xs.length) (hy:y.length=(el xs k).outer.length):(X.length=xs.length/\(el X k).outer.length=(el xs k).outer.length/\(el X k).out.length=(el xs k).out.length/\(el X k).aT.length=(el xs k).aT.length/\(el X k).U.length=(el xs k).U.length/\(el X k).outs.length=(el xs k).outs.length/\(el X k).tables.length=(el xs k).tables.length)/\el X k={el xs k with outer:=y}:=by
  subst h;rw [dS hk];exact⟨⟨List.length_set,hy,rfl,rfl,rfl,rfl,rfl⟩,rfl⟩
theorem FQ {X xs:List aO} {k:Nat} {y:List (List Int)} (h:X=xs.set k {el xs k with out:=y}) (hk:k<xs.length) (hy:y.length=(el xs k).out.length):(X.length=xs.length/\(el X k).outer.length=(el xs k).outer.length/\(el X k).out.length=(el xs k).out.length/\(el X k).aT.length=(el xs k).aT.length/\(el X k).U.length=(el xs k).U.length/\(el X k).outs.length=(el xs k).outs.length/\(el X k).tables.length=(el xs k).tables.length)/\el X k={el xs k with out:=y}:=by
  subst h;rw [dS hk];exact⟨⟨List.length_set,rfl,hy,rfl,rfl,rfl,rfl⟩,rfl⟩
theorem FO {X xs:List aO} {k:Nat} {y:List Bool} (h:X=xs.set k {el xs k with aT:=y}) (hk:k<xs.length) (hy:y.length=(el xs k).aT.length):(X.length=xs.length/\(el X k).outer.length=(el xs k).outer.length/\(el X k).out.length=(el xs k).out.length/\(el X k).aT.length=(el xs k).aT.length/\(el X k).U.length=(el xs k).U.length/\(el X k).outs.length=(el xs k).outs.length/\(el X k).tables.length=(el xs k).tables.length)/\el X k={el xs k with aT:=y}:=by
  subst h;rw [dS hk];exact⟨⟨List.length_set,rfl,rfl,hy,rfl,rfl,rfl⟩,rfl⟩
theorem y4 {X xs:List aO} {k:Nat} {y:List bQ} (h:X=xs.set k {el xs k with tables:=y}) (hk:k<xs.length) (hy:y.length=(el xs k).tables.length):(X.length=xs.length/\(el X k).outer.length=(el xs k).outer.length/\(el X k).out.length=(el xs k).out.length/\(el X k).aT.length=(el xs k).aT.length/\(el X k).U.length=(el xs k).U.length/\(el X k).outs.length=(el xs k).outs.length/\(el X k).tables.length=(el xs k).tables.length)/\el X k={el xs k with tables:=y}:=by
  subst h;rw [dS hk];exact⟨⟨List.length_set,rfl,rfl,rfl,rfl,rfl,hy⟩,rfl⟩
theorem y3 {α:Type} [GT α] {xs:List α} {k:Nat}:xs.set k (el xs k)=xs:=by
  by_cases h:k<xs.length
  · rw [p0 h];exact List.set_getElem_self h
  · exact List.set_eq_of_length_le (by omega)
end Go.Proofs.YtjlocpdfcanlhaaGreat
namespace Go.Proofs.YtjlocpdfcanlhaaGreat
open Go
set_option linter.unusedVariables false
set_option linter.unusedSimpArgs false
inductive Fr where
  |seq (y:Code)
  |sR (id:Nat)
  |iV (f:Act->World->Prop)
def lA (P:Program) (Q:Exit->Act->World->Prop):List Fr->Exit->Act->World->Prop
  |[]=>Q
  | .seq y::r=>Exit.then (y.wp P (lA P Q r)) (lA P Q r)
  | .sR id::r=>Exit.inBlock id (lA P Q r)
  | .iV f::r=>Exit.then f (lA P Q r)
inductive eH where
  |code (c:Code) (dk:List Fr)
  |ops (ops:Array Oper) (i:Nat) (dk:List Fr)
  |ex (e:Exit) (dk:List Fr)
def eH.wp (P:Program) (Q:Exit->Act->World->Prop):eH->Act->World->Prop
  | .code c dk=>c.wp P (lA P Q dk)
  | .ops o i dk=>jQ P o (lA P Q dk) i
  | .ex e dk=>lA P Q dk e
structure dp where
  cF:eH
  σ:b1
  asks:List Ask
def h2 (P:Program) (n:Nat):Nat->eH->b1->List Value->dp
  |
    0,cF,σ,_=>⟨cF,σ,[]⟩
  |k+1,.code c dk,σ,c8=>
    match c with
    | .skip=>h2 P n k (.ex .normal dk) σ c8
    | .seq x y=>h2 P n k (.code x (.seq y::dk)) σ c8
    | .block id x=>h2 P n k (.code x (.sR id::dk)) σ c8
    | .exit id=>h2 P n k (.ex (.exit id) dk) σ c8
    | .ret=>⟨.ex .ret [],σ,[]⟩
    | .cond c x y=>
      match σ.get c with
      |some (.v (.bool b))=>h2 P n k (.code (bif b then x else y) dk) σ c8
      |_=>⟨.code (.cond c x y) dk,σ,[]⟩
    | .region _ ops false=>h2 P n k (.ops ops 0 dk) σ c8
    | .region id ops true=>
      bif P.follows .mixedOrders&&Region.lexB .any ops then
        match kY P n ops ops.toList σ c8 with
        |some (σ',l)=>
          let r:=h2 P n k (.ex .normal dk) σ' (c8.drop l.length)
          ⟨r.cF,r.σ,l.map (·.1)++r.asks⟩
        |none=>⟨.code (.region id ops true) dk,σ,[]⟩
      else⟨.code (.region id ops true) dk,σ,[]⟩
    |c=>⟨.code c dk,σ,[]⟩
  |k+1,.ops ops i dk,σ,c8=>
    match ops.toList[i]? with
    |none=>h2 P n k (.ex .normal dk) σ c8
    |some o=>
      match gA P n ops [o] σ (c8.take 1) with
      |none=>⟨.ops ops i dk,σ,[]⟩
      |some (σ',[])=>h2 P n k (.ops ops (i+1) dk) σ' c8
      |some (σ',(q,_)::_)=>
        let r:=h2 P n k (.ops ops (i+1) dk) σ' (c8.drop 1)
        ⟨r.cF,r.σ,q::r.asks⟩
  |k+1,.ex .normal dk,σ,c8=>
    match dk with
    | .seq y::r=>h2 P n k (.code y r) σ c8
    | .sR _::r=>h2 P n k (.ex .normal r) σ c8
    |dk=>⟨.ex .normal dk,σ,[]⟩
  |k+1,.ex (.exit id) dk,σ,c8=>
    match dk with
    | .seq _::r=>h2 P n k (.ex (.exit id) r) σ c8
    | .iV _::r=>h2 P n k (.ex (.exit id) r) σ c8
    | .sR El::r=>bif Nat.beq id El then h2 P n k (.ex .normal r) σ c8 else h2 P n k (.ex (.exit id) r) σ c8
    |[]=>⟨.ex (.exit id) [],σ,[]⟩
  |_+1,.ex .ret _,σ,_=>⟨.ex .ret [],σ,[]⟩
  |_+1,.ex e dk,σ,_=>⟨.ex e dk,σ,[]⟩
section
variable {P:Program} {n:Nat} {w0:World} {M:au} {u:World} {N:au} {β:Nat->Nat} {σ:b1} {a:Act} {w:World} {Q:Exit->Act->World->Prop} {cF:eH}
theorem QM {ops:Array Oper} {i:Nat} {o:Oper} {σ':b1} {claims:List (Ask×Value)} {dk:List Fr} (bM:ops.toList[i]? =some o) (bV:gA P n ops [o] σ (claims.map (·.2))=some (σ',claims)) (a9:fr P u N claims) (S:aj P n w0 M u N β σ a w)
    (K:∀a0 w' cJ,aj P n w0 M u N cJ σ' a0 w'->eH.wp P Q (.ops ops (i+1) dk) a0 w'):eH.wp P Q (.ops ops i dk) a w:=by
  have kF:ops[i]? =some o:=by simpa using bM
  have eP:i<ops.size:=(Array.getElem?_eq_some_iff.1 kF).1
  have key:=H8 (P:=P) (n:=n) (w0:=w0) (M:=M) (u:=u) (N:=N) (ops:=ops) (Q:=lA P Q dk) σ' (List.range' (i+1) (ops.size-(i+1))) [o] i σ a w β claims
    (fun t gq bs=>by
      cases t with
      |zero=>simp at bs;subst bs;simpa using kF
      |succ t=>simp at bs) bV a9 S (fun a0 w' cJ dR=>K a0 w' cJ dR)
  show jQ P ops (lA P Q dk) i a w
  unfold jQ
  rw [show ops.size-i=1+(ops.size-(i+1)) by omega,←List.range'_append_1]
  exact key
theorem aaX {ops:Array Oper} {o:Oper} {σ':b1} {l:List (Ask×Value)} {claims:List (Ask×Value)} {q:Ask} {v:Value} (h:gA P n ops [o] σ (((q,v)::claims).map (·.2) |>.take 1)=some (σ',l)) {jd:Ask} {x:Value} {r:List (Ask×Value)} (e:l=(jd,x)::r):l=[(jd,v)]:=by
  subst e
  simp only [List.map_cons,List.take_succ_cons,List.take_zero,gA] at h
  split at h
  · cases h
  · cases bD:σ.put n o.dst (.v undef) with
    |none=>rw [bD] at h;cases h
    |some bH=>rw [bD] at h;simp at h
  · split at h
    · cases h
    · rename_i jj hx
      cases bD:σ.put n o.dst jj with
      |none=>rw [bD] at h;cases h
      |some bH=>rw [bD] at h;simp at h
    · rename_i ae hx
      cases bD:σ.put n o.dst (.v v) with
      |none=>rw [bD] at h;cases h
      |some bH=>
        rw [bD] at h
        simp only [Option.bind_some,Option.map_some,Option.some.injEq,Prod.mk.injEq,List.cons.injEq] at h
        obtain⟨_,⟨h1,an⟩,aF⟩:=h
        rw [←an,←aF]
    · rename_i T cs hx
      cases bD:b1.put n ⟨σ.env,σ.aM++[cs]⟩ o.dst (.p σ.aM.length 0) with
      |none=>rw [bD] at h;cases h
      |some bH=>rw [bD] at h;simp at h
    · split at h
      · simp at h
      · cases h
theorem aaZ {ops:Array Oper} {o:Oper} {σ':b1} {c8:List Value} (h:gA P n ops [o] σ c8=some (σ',[])):gA P n ops [o] σ []=some (σ',[]):=by
  simp only [gA] at h ⊢
  split at h
  · cases h
  · assumption
  · split at h
    · cases h
    · exact h
    · cases c8 with
      |
        nil=>cases h
      |cons v r=>
        simp only at h
        cases bD:σ.put n o.dst (.v v) with
        |none=>rw [bD] at h;cases h
        |some bH=>rw [bD] at h;simp at h
    · assumption
    · split at h
      · assumption
      · cases h
theorem aaY {ops:Array Oper} {o:Oper} {σ':b1} {l:List (Ask×Value)} (h:gA P n ops [o] σ []=some (σ',l)):l=[]:=by
  simp only [gA] at h
  split at h
  · cases h
  · cases bD:σ.put n o.dst (.v undef) with
    |none=>rw [bD] at h;cases h
    |some bH=>rw [bD] at h;simp at h;exact h.2
  · split at h
    · cases h
    · rename_i jj hx
      cases bD:σ.put n o.dst jj with
      |none=>rw [bD] at h;cases h
      |some bH=>rw [bD] at h;simp at h;exact h.2
    · cases h
    · rename_i T cs hx
      cases bD:b1.put n ⟨σ.env,σ.aM++[cs]⟩ o.dst (.p σ.aM.length 0) with
      |none=>rw [bD] at h;cases h
      |some bH=>rw [bD] at h;simp at h;exact h.2
    · split at h
      · simp at h;exact h.2
      · cases h
theorem CA:∀dk:List Fr,lA P Q dk .ret a w=Q .ret a w
  |[]=>rfl
  | .seq _::r=>CA r
  | .sR _::r=>CA r
  | .iV _::r=>CA r
theorem QK {ops:Array Oper} {σ':b1}:∀(l:List Oper) (σ:b1) (c8:List Value) (r:List (Ask×Value)),kY P n ops l σ c8=some (σ',r)->r.map (·.2)=c8.take r.length/\kY P n ops l σ (r.map (·.2))=some (σ',r)
  |
    [],σ,c8,r,h=>by
    simp only [kY,Option.some.injEq,Prod.mk.injEq] at h
    obtain⟨rfl,rfl⟩:=h
    exact⟨rfl,rfl⟩
  |o::l,σ,c8,r,h=>by
    have n5:=QK (ops:=ops) (σ':=σ') l
    simp only [kY] at h ⊢
    split at h
    · cases h
    · cases bD:σ.put n o.dst (.v undef) with
      |none=>rw [bD] at h;cases h
      |some bH=>rw [bD] at h;simp only [Option.bind_some] at h ⊢;exact n5 bH c8 r h
    · split at h
      · rename_i aJ x hx
        cases bD:σ.put n o.dst x with
        |none=>rw [bD] at h;cases h
        |some bH=>rw [bD] at h;simp only [Option.bind_some,hx,bD] at h ⊢;exact n5 bH c8 r h
      · rename_i aJ q hx
        cases c8 with
        |nil=>cases h
        |cons v c8=>
          simp only at h
          cases bD:σ.put n o.dst (.v v) with
          |none=>rw [bD] at h;cases h
          |some bH=>
            rw [bD] at h
            simp only [Option.bind_some] at h
            cases bn:kY P n ops l bH c8 with
            |none=>rw [bn] at h;cases h
            |some r'=>
              rw [bn] at h
              simp only [Option.map_some,Option.some.injEq,Prod.mk.injEq] at h
              obtain⟨h1,an⟩:=h
              subst an
              have:=n5 bH c8 r'.2 (by rw [bn,←h1])
              refine⟨by simp [this.1],?_⟩
              simp only [List.map_cons,hx,bD,Option.bind_some,this.2,Option.map_some]
      · cases h
theorem U7 {α β:Type}:∀{l m:List (α×β)},l.map (·.1)=m.map (·.1)->l.map (·.2)=m.map (·.2)->l=m
  |
    [],[],_,_=>rfl
  |[],_::_,h,_=>by simp at h
  |_::_,[],h,_=>by simp at h
  |(a,b)::l,(c,d)::m,h,cl=>by
    simp only [List.map_cons,List.cons.injEq] at h cl
    rw [h.1,cl.1,U7 h.2 cl.2]
theorem fr.parts {l m:List (Ask×Value)} (h:fr P u N (l++m)):fr P u N l/\fr P u N m:=by
  induction l with
  |nil=>exact⟨trivial,h⟩
  |cons c l gh=>exact⟨⟨h.1,(gh h.2).1⟩,(gh h.2).2⟩
theorem aj.xf (S:aj P n w0 M u N β σ a w) {id:Nat} {ops:Array Oper} {σ':b1} {claims:List (Ask×Value)} (a9:fr P u N claims)
    (hm:P.follows .mixedOrders=true) (ca:Region.lexB .any ops=true)
    (bV:kY P n ops ops.toList σ (claims.map (·.2))=some (σ',claims)) (K:∀a0 w',aj P n w0 M u N β σ' a0 w'->Q .normal a0 w'):(Code.region id ops true).wp P Q a w:=by
  have ik:aj P n w0 M u N β σ a {w with drawn:=w.drawn+1}:=S.ext (bu.draw ab w _)
  refine wp_region_quiet (C:=fun w'=>bu ab {w with drawn:=w.drawn+1} w') hm ca (bu.refl _ _) ?_
  exact H6 _ σ' _ ops.toList σ a claims bV a9 ik fun a0 dR w' qe=>K a0 w' (dR.ext qe)
theorem la:∀(k:Nat) (cF:eH) (σ:b1) (claims:List (Ask×Value)) (a:Act) (w:World) (β:Nat->Nat),
    (h2 P n k cF σ (claims.map (·.2))).asks=claims.map (·.1)->fr P u N claims->aj P n w0 M u N β σ a w->
    (∀a0 w' cJ,aj P n w0 M u N cJ (h2 P n k cF σ (claims.map (·.2))).σ a0 w'->eH.wp P Q (h2 P n k cF σ (claims.map (·.2))).cF a0 w')->eH.wp P Q cF a w
  |
    0,cF,σ,claims,a,w,β,_,_,S,K=>K a w β S
  |k+1,.code c dk,σ,claims,a,w,β,h,a9,S,K=>by
    cases c with
    |skip=>exact wp_skip (la k (.ex .normal dk) σ claims a w β h a9 S K)
    |seq x y=>exact wp_seq (la k (.code x (.seq y::dk)) σ claims a w β h a9 S K)
    |block id x=>exact wp_block (la k (.code x (.sR id::dk)) σ claims a w β h a9 S K)
    |exit id=>exact wp_exit (la k (.ex (.exit id) dk) σ claims a w β h a9 S K)
    |ret=>exact wp_ret (show lA P Q dk .ret a w by rw [CA];exact K a w β S)
    |cond c x y=>
      cases hc:σ.get c with
      |none=>simp only [h2,hc] at K;exact K a w β S
      |some s=>
        cases s with
        |p k o=>simp only [h2,hc] at K;exact K a w β S
        |v z=>
          cases z with
          |bool b=>
            simp only [h2,hc] at h K
            refine S.cond hc (fun e=>?_) (fun e=>?_)<;>subst e
            · exact la k (.code x dk) σ claims a w β h a9 S K
            · exact la k (.code y dk) σ claims a w β h a9 S K
          |_=>simp only [h2,hc] at K;exact K a w β S
    |region id ops d=>
      cases d with
      |false=>exact jQ.start (la k (.ops ops 0 dk) σ claims a w β h a9 S K)
      |true=>
        simp only [h2] at h K
        cases hb:(P.follows .mixedOrders&&Region.lexB .any ops) with
        |false=>simp only [hb,cond_false] at K;exact K a w β S
        |true=>
          simp only [hb,cond_true] at h K
          simp only [Bool.and_eq_true] at hb
          cases he:kY P n ops ops.toList σ (claims.map (·.2)) with
          |none=>simp only [he] at K;exact K a w β S
          |some r=>
            obtain⟨σ',l⟩:=r
            simp only [he] at h K
            obtain⟨h1,an⟩:=QK _ _ _ _ he
            have hl:l=claims.take l.length:=by
              refine U7 ?_ ?_
              · have:=congrArg (List.take l.length) h
                rw [List.take_left' (by simp)] at this
                rw [this,List.map_take]
              · rw [h1,List.map_take]
            have hc:claims=l++claims.drop l.length:=by
              conv=>lhs;rw [←List.take_append_drop l.length claims]
              rw [←hl]
            generalize claims.drop l.length=zL at hc
            subst hc
            have hd:(List.map (fun x=>x.2) (l++zL)).drop l.length=zL.map (·.2):=by
              rw [List.map_append,List.drop_left' (by simp)]
            rw [hd] at h K
            rw [List.map_append] at h
            have cl:=List.append_cancel_left h
            have SF:=a9.parts
            exact S.xf SF.1 hb.1 hb.2 an (fun a0 w' dR=>la k (.ex .normal dk) σ' zL a0 w' β cl SF.2 dR K)
    |_=>exact K a w β S
  |k+1,.ops ops i dk,σ,claims,a,w,β,h,a9,S,K=>by
    simp only [h2] at h K
    cases bM:ops.toList[i]? with
    |none=>
      simp only [bM] at h K
      have hle:ops.size<=i:=by
        have:=List.getElem?_eq_none_iff.1 bM
        simpa using this
      refine jQ.done (Nat.ble_eq_true_of_le hle) ?_
      exact la k (.ex .normal dk) σ claims a w β h a9 S K
    |some o=>
      simp only [bM] at h K
      cases he:gA P n ops [o] σ ((claims.map (·.2)).take 1) with
      |none=>simp only [he] at K;exact K a w β S
      |some r=>
        obtain⟨σ',l⟩:=r
        simp only [he] at h K
        cases l with
        |nil=>
          simp only at h K
          exact QM (claims:=[]) bM (aaZ he) .nil S (fun a0 w' cJ dR=>la k _ σ' claims a0 w' cJ h a9 dR K)
        |cons c l=>
          obtain⟨q,x⟩:=c
          simp only at h K
          cases claims with
          |nil=>exact absurd (aaY he) (by simp)
          |cons c zL=>
            obtain⟨jd,v⟩:=c
            have hl:=aaX he rfl
            rw [hl] at he
            simp only [List.map_cons,List.drop_succ_cons,List.drop_zero,List.cons.injEq] at h K
            obtain⟨h1,an⟩:=h
            subst h1
            exact QM (claims:=[(q,v)]) bM he ⟨a9.1,trivial⟩ S (fun a0 w' cJ dR=>la k _ σ' zL a0 w' cJ an a9.2 dR K)
  |k+1,.ex e dk,σ,claims,a,w,β,h,a9,S,K=>by
    cases e with
    |normal=>
      cases dk with
      |nil=>exact K a w β S
      |cons f r=>
        cases f with
        |seq y=>exact la k (.code y r) σ claims a w β h a9 S K
        |sR id=>exact la k (.ex .normal r) σ claims a w β h a9 S K
        |iV f=>exact K a w β S
    |exit id=>
      cases dk with
      |nil=>exact K a w β S
      |cons f r=>
        cases f with
        |seq y=>exact la k (.ex (.exit id) r) σ claims a w β h a9 S K
        |iV f=>exact la k (.ex (.exit id) r) σ claims a w β h a9 S K
        |sR El=>
          simp only [h2] at h K
          show(if id=El then lA P Q r .normal a w else lA P Q r (.exit id) a w)
          cases hb:Nat.beq id El with
          |true=>
            simp only [hb,cond_true] at h K
            rw [if_pos (Nat.eq_of_beq_eq_true hb)]
            exact la k (.ex .normal r) σ claims a w β h a9 S K
          |false=>
            simp only [hb,cond_false] at h K
            rw [if_neg (fun e=>by subst e;simp at hb)]
            exact la k (.ex (.exit id) r) σ claims a w β h a9 S K
    |ret=>
      show lA P Q dk .ret a w
      rw [CA]
      exact K a w β S
    |_=>exact K a w β S
def dp.go (P:Program) (n k:Nat) (ei:List Value) (r:dp):dp:=h2 P n k r.cF r.σ ei
structure dW (P:Program) (Q:Exit->Act->World->Prop) (r:dp) (a:Act) (w:World):Prop where
  ok:eH.wp P Q r.cF a w
def eH.dk:eH->List Fr
  | .ops _ _ k=>k
  | .code _ k=>k
  | .ex _ k=>k
structure F8 (P:Program) (Q:Exit->Act->World->Prop) (r:dp) (e:Exit) (a:Act) (w:World):Prop where
  ok:lA P Q r.cF.dk e a w
theorem aj.go {r:dp} (S:aj P n w0 M u N β r.σ a w) (k:Nat) {claims:List (Ask×Value)} (a9:fr P u N claims)
    (K:∀a0 w' cJ,aj P n w0 M u N cJ (r.go P n k (claims.map (·.2))).σ a0 w'->dW P Q (r.go P n k (claims.map (·.2))) a0 w')
    (h:(r.go P n k (claims.map (·.2))).asks=claims.map (·.1):=by kernel_rfl):dW P Q r a w:=⟨la k r.cF r.σ claims a w β h a9 S fun a0 w' cJ dR=>(K a0 w' cJ dR).ok⟩
def eH.V2:eH->Option Tmp
  | .code (.cond (.tmp t) _ _) _=>some t
  | .ops l i _=>match l.toList[i]? with
    |
      some o=>match o.guard with
      |
        some (j,_)=>(l.toList[j]?).bind (·.dst)
      |none=>match o.op with
        | .pick (.tmp t) _ _=>some t
        |_=>none
    |none=>none
  |_=>none
def dp.Ho (r:dp):Option Bool:=
  match r.cF.V2 with
  |some t=>match look r.σ.env t with
    |some (.v (.bool e))=>some e
    |_=>none
  |none=>none
def b1.lit (σ:b1) (t:Option Tmp) (b:Bool):b1:=
  match t with
  |some t=>⟨(t,.v (.bool b))::σ.env,σ.aM⟩
  |none=>σ
def dp.lit (r:dp) (b:Bool):dp:=⟨r.cF,r.σ.lit r.cF.V2 b,[]⟩
def dp.lt (r:dp) (t:Tmp) (b:Bool):dp:=⟨r.cF,r.σ.lit (some t) b,[]⟩
theorem aj.lit (S:aj P n w0 M u N β σ a w) (t:Tmp) {e b:Bool} (h:e=b) (he:look σ.env t=some (.v (.bool e)):=by kernel_rfl):aj P n w0 M u N β (σ.lit (some t) b) a w:=by
  subst h
  refine⟨S.l_,S.aW,fun Cu s hs=>?_,fun Cu k o hs=>?_,S.box,S.inj,S.new,S.sep,S.fp,S.k3⟩
  · simp only [b1.lit,pt] at hs
    split at hs
    · rename_i h3;subst h3
      simp at hs;subst hs
      exact S.env _ _ he
    · exact S.env Cu s hs
  · simp only [b1.lit,pt] at hs
    split at hs
    · cases hs
    · exact S.ok Cu k o hs
theorem aj.lt {r:dp} (S:aj P n w0 M u N β r.σ a w) (t:Tmp) {e b:Bool} (h:e=b) (K:aj P n w0 M u N β (r.lt t b).σ a w->dW P Q (r.lt t b) a w) (he:look r.σ.env t=some (.v (.bool e)):=by kernel_rfl):dW P Q r a w:=⟨(K (S.lit t h he)).ok⟩
theorem aj.bb {r:dp} (S:aj P n w0 M u N β r.σ a w) (k:Nat) {claims:List (Ask×Value)} (a9:fr P u N claims) (e:Bool)
    (bs:∀a0 w' cJ,e=true->aj P n w0 M u N cJ ((r.go P n k (claims.map (·.2))).lit true).σ a0 w'->dW P Q ((r.go P n k (claims.map (·.2))).lit true) a0 w')
    (bf:∀a0 w' cJ,e=false->aj P n w0 M u N cJ ((r.go P n k (claims.map (·.2))).lit false).σ a0 w'->dW P Q ((r.go P n k (claims.map (·.2))).lit false) a0 w')
    (h:(r.go P n k (claims.map (·.2))).asks=claims.map (·.1):=by kernel_rfl) (cl:(r.go P n k (claims.map (·.2))).Ho=some e:=by kernel_rfl):dW P Q r a w:=
  S.go k a9 (fun a0 w' cJ dR=>by
    generalize r.go P n k (claims.map (·.2))=r' at*
    unfold dp.Ho at cl
    split at cl
    · rename_i t h1
      split at cl
      · rename_i h3 an
        simp at cl;subst cl
        have ct:∀b,r'.lit b=⟨r'.cF,r'.σ.lit (some t) b,[]⟩:=fun b=>by unfold dp.lit;rw [h1]
        cases h3 with
        |true=>rw [ct] at bs;exact⟨(bs a0 w' cJ rfl (dR.lit t rfl an)).ok⟩
        |false=>rw [ct] at bf;exact⟨(bf a0 w' cJ rfl (dR.lit t rfl an)).ok⟩
      · cases cl
    · cases cl) h
class w4 (e:Bool) (T F:outParam Prop):Prop where
  t:e=true->T
  f:e=false->F
instance (p:Prop) [Decidable p]:w4 (decide p) p (¬p):=⟨of_decide_eq_true,of_decide_eq_false⟩
instance {α:Type} [BEq α] [LawfulBEq α] (x y:α):w4 (x==y) (x=y) (¬x=y):=⟨eq_of_beq,ne_of_beq_false⟩
instance {α:Type} [BEq α] [LawfulBEq α] (x y:α):w4 (x != y) (¬x=y) (x=y):=⟨fun h=>bne_iff_ne.1 h,fun h=>by simpa using h⟩
theorem aj.aI {r:dp} (S:aj P n w0 M u N β r.σ a w) (k:Nat) {claims:List (Ask×Value)} (a9:fr P u N claims) (e:Bool) {T F:Prop} [w4 e T F]
    (bs:∀a0 w' cJ,e=true->T->aj P n w0 M u N cJ ((r.go P n k (claims.map (·.2))).lit true).σ a0 w'->dW P Q ((r.go P n k (claims.map (·.2))).lit true) a0 w')
    (bf:∀a0 w' cJ,e=false->F->aj P n w0 M u N cJ ((r.go P n k (claims.map (·.2))).lit false).σ a0 w'->dW P Q ((r.go P n k (claims.map (·.2))).lit false) a0 w')
    (h:(r.go P n k (claims.map (·.2))).asks=claims.map (·.1):=by kernel_rfl) (cl:(r.go P n k (claims.map (·.2))).Ho=some e:=by kernel_rfl):dW P Q r a w:=
  S.bb k a9 e (fun a0 w' cJ h=>bs a0 w' cJ h (w4.t h)) (fun a0 w' cJ h=>bf a0 w' cJ h (w4.f h)) h cl
def eH.CW:eH->Bool
  | .ex .ret []=>true
  | .ex .normal []=>true
  |_=>false
theorem W6 {cF:eH} (h:cF.CW=true) {fn:Func} {cd:Ending->World->Prop} (h1:bodyPost P fn cd .ret a w) (an:bodyPost P fn cd .normal a w):eH.wp P (bodyPost P fn cd) cF a w:=by
  unfold eH.CW at h
  split at h
  · exact h1
  · exact an
  · cases h
theorem aj.bq {r:dp} (S:aj P n w0 M u N β r.σ a w) (k:Nat) {claims:List (Ask×Value)} (a9:fr P u N claims) {fn:Func} {cd:Ending->World->Prop} (ei:List Value)
    (K:∀a0 w' cJ,aj P n w0 M u N cJ (r.go P n k (claims.map (·.2))).σ a0 w'->cd (.returned (packed ei)) w')
    (h:(r.go P n k (claims.map (·.2))).asks=claims.map (·.1):=by kernel_rfl) (bn:(r.go P n k (claims.map (·.2))).cF.CW=true:=by kernel_rfl)
    (b5:pE P (r.go P n k (claims.map (·.2))).σ fn.results.toList=some ei:=by kernel_rfl):dW P (bodyPost P fn cd) r a w:=
  S.go k a9 (fun a0 w' cJ dR=>⟨W6 bn (dR.ret b5 (K a0 w' cJ dR)) (dR.QV b5 (K a0 w' cJ dR))⟩) h
theorem aj.aq {X:Ending} {r:dp} (S:aj P n w0 M u N β r.σ a w) (k:Nat) {claims:List (Ask×Value)} (a9:fr P u N claims) (ei:List Value) {fn:Func} (e:Ending.returned (packed ei)=X)
    (h:(r.go P n k (claims.map (·.2))).asks=claims.map (·.1):=by kernel_rfl) (bn:(r.go P n k (claims.map (·.2))).cF.CW=true:=by kernel_rfl)
    (b5:pE P (r.go P n k (claims.map (·.2))).σ fn.results.toList=some ei:=by kernel_rfl):dW P (bodyPost P fn (fun e w'=>e=X/\bu M w0 w')) r a w:=
  S.bq k a9 ei (fun a0 w' cJ dR=>⟨e,dR.fp⟩) h bn b5
def eH.start (fn:Func):eH:= .code (fn.body.getD .skip) []
def dp.start (fn:Func) (args:List Value):dp:=⟨.start fn,⟨w8 0 args,[]⟩,[]⟩
theorem Calls.run {f:FuncId} {fn:Func} {args:List Value} {cd:Ending->World->Prop} (M:au) (bf:P.funcs[f]? =some fn)
    (h:∀a β,aj P fn.ntmps w M w (fc w.heap.size) β (dp.start fn args).σ a w->dW P (bodyPost P fn cd) (dp.start fn args) a w)
    (hb:fn.body.isSome=true:=by kernel_rfl) (cX:Nat.ble args.length fn.ntmps=true:=by kernel_rfl):Calls P f args.toArray w cd:=by
  cases e:fn.body with
  |none=>rw [e] at hb;cases hb
  |some c=>
    refine Calls.walk M bf e cX fun a β S=>?_
    have:=(h a β S).ok
    simp only [dp.start,eH.start,e,Option.getD_some] at this
    exact this
def eH.opsOf:eH->Array Oper
  | .ops o _ _=>o
  | .code (.region _ o _) _=>o
  |_=>#[]
def eH.idx:eH->Nat
  | .ops _ i _=>i
  |_=>0
def eH.kG:eH->Bool
  | .ops o i _=>Nat.blt i o.size
  |_=>false
def eH.Ld:eH->eH
  | .ops o i k=> .ops o (i+1) k
  |cF=>cF
def dp.put (r:dp) (d:Tmp) (v:Value):dp:=⟨r.cF.Ld,⟨(d,.v v)::r.σ.env,r.σ.aM⟩,[]⟩
def dp.q4 (r:dp):dp:=⟨r.cF.Ld,r.σ,[]⟩
def dp.tell (r:dp) (σ:b1):dp:=⟨r.cF,σ,[]⟩
def dp.CS (r:dp) (σ:b1):dp:=⟨.ex .normal r.cF.dk,σ,[]⟩
theorem lo (h:wpOp P cF.opsOf (lA P Q cF.dk) cF.idx (fun a0 w'=>eH.wp P Q cF.Ld a0 w') a w) (hb:cF.kG=true):eH.wp P Q cF a w:=by
  cases cF with
  |ops o i k=>exact jQ.op hb h
  |_=>cases hb
abbrev dp.op (P:Program) (Q:Exit->Act->World->Prop) (r:dp) (K:Act->World->Prop) (a:Act) (w:World):Prop:=wpOp P r.cF.opsOf (lA P Q r.cF.dk) r.cF.idx K a w
theorem aj.is (S:aj P n w0 M u N β σ a w) {r:dp} (K:aj P n w0 M u N β (r.tell σ).σ a w->dW P Q (r.tell σ) a w):dW P Q r a w:=⟨(K S).ok⟩
def eH.S4:eH->Bool
  | .code (.loop _) _=>true
  |_=>false
def eH.body:eH->Code
  | .code (.loop c) _=>c
  |_=> .skip
def dp.Vw (r:dp) (f:Act->World->Prop) (σ:b1):dp:=⟨.code r.cF.body (.iV f::r.cF.dk),σ,[]⟩
structure Oi (P:Program) (Q:Exit->Act->World->Prop) (r:dp) (f:Act->World->Prop) (a:Act) (w:World):Prop where
  ok:eH.wp P Q (.code r.cF.body (.iV f::r.cF.dk)) a w
structure WM (Inv:Nat->Act->World->Prop) (m:Nat) (f:Act->World->Prop) where
  of:∀q2 a w,q2<m->Inv q2 a w->f a w
theorem dc {r:dp} (Inv:Nat->Act->World->Prop) (m:Nat) (h0:Inv m a w) (round:∀(f:Act->World->Prop) m,WM Inv m f->∀a w,Inv m a w->Oi P Q r f a w) (h:r.cF.S4=true:=by kernel_rfl):dW P Q r a w:=by
  have aiZ:=fun f m bf a w u3=>(round f m bf a w u3).ok
  refine⟨?_⟩
  generalize r.cF=cF at*
  unfold eH.S4 at h
  split at h
  · exact akr Inv m h0 fun m a w u3=>aiZ _ m ⟨fun q2 a w eP h=>⟨q2,eP,h⟩⟩ a w u3
  · cases h
theorem aj.rs (S:aj P n w0 M u N β σ a w) {r:dp} {f:Act->World->Prop} (K:aj P n w0 M u N β (r.Vw f σ).σ a w->dW P Q (r.Vw f σ) a w):Oi P Q r f a w:=⟨(K S).ok⟩
def eH.Ow:eH->Option (Act->World->Prop)
  | .ex .normal (.iV f::_)=>some f
  |_=>none
theorem aj.ge {r:dp} (S:aj P n w0 M u N β r.σ a w) (k:Nat) {claims:List (Ask×Value)} (a9:fr P u N claims) (f:Act->World->Prop)
    (K:∀a0 w' cJ,aj P n w0 M u N cJ (r.go P n k (claims.map (·.2))).σ a0 w'->f a0 w')
    (h:(r.go P n k (claims.map (·.2))).asks=claims.map (·.1):=by kernel_rfl) (hs:(r.go P n k (claims.map (·.2))).cF.Ow=some f:=by kernel_rfl):dW P Q r a w:=
  S.go k a9 (fun a0 w' cJ dR=>⟨by
    generalize (r.go P n k (claims.map (·.2))).cF=c at hs
    unfold eH.Ow at hs
    split at hs
    · simp at hs;subst hs;exact K a0 w' cJ dR
    · cases hs⟩) h
def eH.aac:eH->Code
  | .code c _=>c
  |_=> .skip
def eH.S2:eH->Bool
  | .code _ _=>true
  |_=>false
def dp.aw (r:dp):dp:=⟨.code r.cF.aac [],r.σ,[]⟩
theorem il {r:dp} (S:aj P n w0 M u N β r.σ a w) (aa:Act->World->Prop) (h:aj P n w0 M u N β r.aw.σ a w->dW P (k9 aa) r.aw a w) (k:∀a w,aa a w->F8 P Q r .normal a w) (hc:r.cF.S2=true:=by kernel_rfl):dW P Q r a w:=by
  have h:=(h S).ok
  have fq:=fun a w u3=>(k a w u3).ok
  refine⟨?_⟩
  unfold dp.aw at h
  simp only at h
  generalize r.cF=cF at*
  cases cF with
  |code c dk=>exact mD aa h fq
  |_=>cases hc
theorem aj.pV {r:dp} (S:aj P n w0 M u N β r.σ a w) (σ':b1) (h:aj P n w0 M u N β r.aw.σ a w->dW P (k9 fun a w=>∃cJ,aj P n w0 M u N cJ σ' a w) r.aw a w) (k:∀a w cJ,aj P n w0 M u N cJ (r.CS σ').σ a w->dW P Q (r.CS σ') a w) (hc:r.cF.S2=true:=by kernel_rfl):dW P Q r a w:=
  il S _ h (fun a w ⟨cJ,h⟩=>⟨(k a w cJ h).ok⟩) hc
def eH.aiW:eH->Nat
  | .code (.region id _ _) _=>id
  |_=>0
def eH.S3:eH->Bool
  | .code (.region _ _ true) _=>true
  |_=>false
theorem dI {r:dp} (h:(Code.region r.cF.aiW r.cF.opsOf true).wp P (F8 P Q r) a w) (hc:r.cF.S3=true:=by kernel_rfl):dW P Q r a w:=by
  have h:=Code.wp_mono (Q':=lA P Q r.cF.dk) (fun _ _ _ h=>h.ok) h
  refine⟨?_⟩
  generalize r.cF=cF at*
  unfold eH.S3 at hc
  split at hc
  · exact h
  · cases hc
theorem aj.ex (S:aj P n w0 M u N β σ a w) {r:dp} (K:aj P n w0 M u N β (r.CS σ).σ a w->dW P Q (r.CS σ) a w):F8 P Q r .normal a w:=⟨(K S).ok⟩
def eH.atEnd:eH->Bool
  | .ex .normal []=>true
  |_=>false
theorem aj.dF {r:dp} (S:aj P n w0 M u N β r.σ a w) (k:Nat) {claims:List (Ask×Value)} (a9:fr P u N claims)
    (K:∀a0 w' cJ,aj P n w0 M u N cJ (r.go P n k (claims.map (·.2))).σ a0 w'->Q .normal a0 w')
    (h:(r.go P n k (claims.map (·.2))).asks=claims.map (·.1):=by kernel_rfl) (hs:(r.go P n k (claims.map (·.2))).cF.atEnd=true:=by kernel_rfl):dW P Q r a w:=
  S.go k a9 (fun a0 w' cJ dR=>⟨by
    generalize (r.go P n k (claims.map (·.2))).cF=c at hs
    unfold eH.atEnd at hs
    split at hs
    · exact K a0 w' cJ dR
    · cases hs⟩) h
end
attribute [irreducible] dp.go h2
end Go.Proofs.YtjlocpdfcanlhaaGreat
namespace Go.Proofs.YtjlocpdfcanlhaaGreat
open Go
set_option linter.unusedVariables false
section
variable {P:Program} {n:Nat} {w0:World} {M:au} {u:World} {N:au} {β:Nat->Nat} {a:Act} {w:World} {Q:Exit->Act->World->Prop}
theorem aj.cN {bR:dp} {α:Type} [GT α] {f:FuncId} {eG:List Value} {d:Tmp} {r:α} (S:aj P n w0 M u N β bR.σ a w) (hc:Calls P f eG.toArray w (dw ab w r)) (K:∀a0 w' aA q F,aj P n w0 M w' aA β (bR.put d (GT.val r q)).σ a0 w'->(∀b,N b->aA b/\w'.heap[b]? =u.heap[b]?)->ad w0 M w' aA F r q->J N F->dW P Q (bR.put d (GT.val r q)) a0 w') (hcall:kv P n bR.cF.opsOf bR.cF.idx bR.σ=some (f,eG,d):=by kernel_rfl) (hd:Nat.blt d n=true:=by kernel_rfl) (ca:bR.cF.kG=true:=by kernel_rfl):dW P Q bR a w:=
  ⟨lo (aj.P2 S (hc:=hc) (hcall:=hcall) (hd:=hd) (K:=fun _ _ _ _ _ h0 h1 an aF=>(K _ _ _ _ _ h0 h1 an aF).ok)) ca⟩
theorem aj.rA {bR:dp} {α g_:Type} [GT α] [GT g_] {f:FuncId} {eG:List Value} {d:Tmp} {r:α} {r':g_} (S:aj P n w0 M u N β bR.σ a w) (hc:Calls P f eG.toArray w (rC ab w r r')) (K:∀a0 w' aA q jd F bW,aj P n w0 M w' aA β (bR.put d (.tuple #[GT.val r q,GT.val r' jd])).σ a0 w'->(∀b,N b->aA b/\w'.heap[b]? =u.heap[b]?)->ad w0 M w' aA F r q->ad w0 M w' aA bW r' jd->J N F->J N bW->J F bW->dW P Q (bR.put d (.tuple #[GT.val r q,GT.val r' jd])) a0 w') (hcall:kv P n bR.cF.opsOf bR.cF.idx bR.σ=some (f,eG,d):=by kernel_rfl) (hd:Nat.blt d n=true:=by kernel_rfl) (ca:bR.cF.kG=true:=by kernel_rfl):dW P Q bR a w:=
  ⟨lo (aj.call2 S (hc:=hc) (hcall:=hcall) (hd:=hd) (K:=fun _ _ _ _ _ _ _ h0 h1 an aF b2 bl cR=>(K _ _ _ _ _ _ _ h0 h1 an aF b2 bl cR).ok)) ca⟩
theorem aj.WK {bR:dp} {α:Type} [GT α] {f:FuncId} {eG:List Value} {d:Tmp} {r:α} {r':Int} {r'':Bool} (S:aj P n w0 M u N β bR.σ a w) (hc:Calls P f eG.toArray w (zo ab w r r' r'')) (K:∀a0 w' aA q F,aj P n w0 M w' aA β (bR.put d (.tuple #[GT.val r q,aa r',B r''])).σ a0 w'->(∀b,N b->aA b/\w'.heap[b]? =u.heap[b]?)->ad w0 M w' aA F r q->J N F->a_ r'->dW P Q (bR.put d (.tuple #[GT.val r q,aa r',B r''])) a0 w') (hcall:kv P n bR.cF.opsOf bR.cF.idx bR.σ=some (f,eG,d):=by kernel_rfl) (hd:Nat.blt d n=true:=by kernel_rfl) (ca:bR.cF.kG=true:=by kernel_rfl):dW P Q bR a w:=
  ⟨lo (aj.call3 S (hc:=hc) (hcall:=hcall) (hd:=hd) (K:=fun _ _ _ _ _ h0 h1 an aF b2=>(K _ _ _ _ _ h0 h1 an aF b2).ok)) ca⟩
theorem aj.kV {bR:dp} {α:Type} [GT α] [aS α] {hd:α->Int->Int} {F:au} {x:α} {p:GT.Ptr α} {k:Int} {f:FuncId} {eG:List Value} {d:Tmp} (S:aj P n w0 M u N β bR.σ a w) (o:ad w0 M u N F x p) (hc:Calls P f eG.toArray w (n6 hd F w p x k)) (K:∀a0 w' aA p' y fq,aj P n w0 M w' aA β (bR.put d (aa fq)).σ a0 w'->(∀b,N b->¬F b->aA b/\w'.heap[b]? =u.heap[b]?)->ad w0 M w' aA F y p'->GT.cells y p'=GT.cells x p->hd y k=fq->k<=fq->fq<=k+16*(aS.aW x:Nat)->dW P Q (bR.put d (aa fq)) a0 w') (hcall:kv P n bR.cF.opsOf bR.cF.idx bR.σ=some (f,eG,d):=by kernel_rfl) (hd':Nat.blt d n=true:=by kernel_rfl) (ca:bR.cF.kG=true:=by kernel_rfl):dW P Q bR a w:=
  ⟨lo (aj.Z7 S (o:=o) (hc:=hc) (hcall:=hcall) (hd':=hd') (K:=fun _ _ _ _ _ _ h0 h1 an aF b2 bl cR=>(K _ _ _ _ _ _ h0 h1 an aF b2 bl cR).ok)) ca⟩
theorem aj.Oc {bR:dp} {α g_:Type} [GT α] [GT g_] {F:au} {x:α} {p:GT.Ptr α} {f:FuncId} {eG:List Value} {d:Tmp} {r Y:g_} (S:aj P n w0 M u N β bR.σ a w) (o:ad w0 M u N F x p) (hY:Y=r) (hc:Calls P f eG.toArray w (ur F F w r)) (K:∀a0 w' aA q bW,aj P n w0 M w' aA β (bR.put d (GT.val Y q)).σ a0 w'->(∀b,N b->¬F b->aA b/\w'.heap[b]? =u.heap[b]?)->ad w0 M w' aA bW Y q->(∀G:au,J G F->(∀b,G b->N b)->J G bW)->dW P Q (bR.put d (GT.val Y q)) a0 w') (hcall:kv P n bR.cF.opsOf bR.cF.idx bR.σ=some (f,eG,d):=by kernel_rfl) (hd:Nat.blt d n=true:=by kernel_rfl) (ca:bR.cF.kG=true:=by kernel_rfl):dW P Q bR a w:=
  ⟨lo (aj.Z6 S (o:=o) (hY:=hY) (hc:=hc) (hcall:=hcall) (hd:=hd) (K:=fun _ _ _ _ _ h0 h1 an aF=>(K _ _ _ _ _ h0 h1 an aF).ok)) ca⟩
theorem aj.uq {bR:dp} {α:Type} [GT α] {cd:GT.Ptr α->GT.Ptr α->Prop} {F:au} {x:α} {b6:aC α} {f:FuncId} {eG:List Value} {d:Tmp} {v:Value} {jj:α} (S:aj P n w0 M u N β bR.σ a w) (o:ad w0 M u N F [x] b6) (hc:Calls P f eG.toArray w (sN cd F b6 w v jj)) (K:∀k_ w' aA cw bW,aj P n w0 M w' aA β (bR.put d v).σ k_ w'->(∀b,N b->¬F b->aA b/\w'.heap[b]? =u.heap[b]?)->ad w0 M w' aA bW [jj] ((b6.1,cw):aC α)->(∀G:au,J G F->(∀b,G b->N b)->J G bW)->cd (b6.2 0) (cw 0)->dW P Q (bR.put d v) k_ w') (hcall:kv P n bR.cF.opsOf bR.cF.idx bR.σ=some (f,eG,d):=by kernel_rfl) (hd:Nat.blt d n=true:=by kernel_rfl) (ca:bR.cF.kG=true:=by kernel_rfl):dW P Q bR a w:=
  ⟨lo (aj.Z3 S (o:=o) (hc:=hc) (hcall:=hcall) (hd:=hd) (K:=fun _ _ _ _ _ h0 h1 an aF b2=>(K _ _ _ _ _ h0 h1 an aF b2).ok)) ca⟩
theorem aj.mG {bR:dp} {α:Type} [GT α] {m by':Nat} {d:Tmp} (S:aj P n w0 M u N β bR.σ a w) (hb:by'*m<=281474976710656) (hm:m<=b7) (K:∀a0 w' aA q F,aj P n w0 M w' aA β (bR.put d (R m q.1)).σ a0 w'->(∀b,N b->aA b/\w'.heap[b]? =u.heap[b]?)->
      ad w0 M w' aA F (List.replicate m (GT.eK:α)) q->J N F->dW P Q (bR.put d (R m q.1)) a0 w') (hop:KX P n bR.cF.opsOf bR.cF.idx bR.σ=some (aa m,GT.cells (GT.eK:α) GT.cY,by',GT.width α,d):=by kernel_rfl) (ca:bR.cF.kG=true:=by kernel_rfl):dW P Q bR a w:=
  ⟨lo (aj.make S (hop:=hop) (hb:=hb) (hm:=hm) (K:=fun _ _ _ _ _ h0 h1 an aF=>(K _ _ _ _ _ h0 h1 an aF).ok)) ca⟩
theorem aj.gR {bR:dp} {α:Type} [GT α] {d:Tmp} (S:aj P n w0 M u N β bR.σ a w) (K:∀a0 w' aA q F,aj P n w0 M w' aA β (bR.put d (R 0 q.1)).σ a0 w'->(∀b,N b->aA b/\w'.heap[b]? =u.heap[b]?)->
      ad w0 M w' aA F ([]:List α) q->J N F->dW P Q (bR.put d (R 0 q.1)) a0 w') (hop:xb P n bR.cF.opsOf bR.cF.idx bR.σ=some ([],0,d):=by kernel_rfl) (ca:bR.cF.kG=true:=by kernel_rfl):dW P Q bR a w:=
  ⟨lo (aj.fA S (hop:=hop) (K:=fun _ _ _ _ _ h0 h1 an aF=>(K _ _ _ _ _ h0 h1 an aF).ok)) ca⟩
theorem aj.iL {bR:dp} {α:Type} [GT α] {x:α} {p:GT.Ptr α} {F:au} {d:Tmp} (S:aj P n w0 M u N β bR.σ a w) (hx:GT.own b7 F u x p) (hN:∀b,F b->N b) (hY:∀b,F b->w0.heap.size<=b\/M b) (K:∀a0 w' aA q bW,aj P n w0 M w' aA β (bR.put d (R 1 q.1)).σ a0 w'->(∀b,N b->aA b/\w'.heap[b]? =u.heap[b]?)->
      ad w0 M w' aA bW [x] q->(∀G:au,J G F->(∀b,G b->N b)->J G bW)->dW P Q (bR.put d (R 1 q.1)) a0 w') (hop:xb P n bR.cF.opsOf bR.cF.idx bR.σ=some (GT.cells x p,1,d):=by kernel_rfl) (ca:bR.cF.kG=true:=by kernel_rfl):dW P Q bR a w:=
  ⟨lo (aj.pS S (hx:=hx) (hN:=hN) (hY:=hY) (hop:=hop) (K:=fun _ _ _ _ _ h0 h1 an aF=>(K _ _ _ _ _ h0 h1 an aF).ok)) ca⟩
theorem aj.wP {bR:dp} {α:Type} [GT α] {xs bj:List α} {p q:aC α} {F Fy:au} {by' lx ly:Nat} {d:Tmp} (S:aj P n w0 M u N β bR.σ a w) (hx:ad w0 M u N F xs p) (hy:ad w0 M u N Fy bj q) (hd:J F Fy) (hlx:lx=xs.length) (hly:ly=bj.length) (hl:xs.length+bj.length<=b7) (K:∀a0 w' aA r bW,aj P n w0 M w' aA β (bR.put d (R (xs++bj).length r.1)).σ a0 w'->(∀b,N b->¬F b->aA b/\w'.heap[b]? =u.heap[b]?)->
      ad w0 M w' aA bW (xs++bj) r->(∀G:au,J G F->J G Fy->(∀b,G b->N b)->J G bW)->dW P Q (bR.put d (R (xs++bj).length r.1)) a0 w') (hop:rG P n bR.cF.opsOf bR.cF.idx bR.σ=some (R lx p.1,R ly q.1,GT.width α,by',d):=by kernel_rfl) (ca:bR.cF.kG=true:=by kernel_rfl):dW P Q bR a w:=
  ⟨lo (aj.CU S (hx:=hx) (hy:=hy) (hd:=hd) (hlx:=hlx) (hly:=hly) (hop:=hop) (hl:=hl) (K:=fun _ _ _ _ _ h0 h1 an aF=>(K _ _ _ _ _ h0 h1 an aF).ok)) ca⟩
theorem aj.k7 {bR:dp} {α:Type} [GT α] {xs bj:List α} {p q:aC α} {F:au} {by' lx ly:Nat} {d:Tmp} (S:aj P n w0 M u N β bR.σ a w) (hx:ad w0 M u N F xs p) (hyr:sO u N bj q) (hfl:∀(x:α) (r:GT.Ptr α),GT.rd b7 N u x r->GT.own b7 ab u x r) (hlx:lx=xs.length) (hly:ly=bj.length) (hl:xs.length+bj.length<=b7) (K:∀a0 w' aA r bW,aj P n w0 M w' aA β (bR.put d (R (xs++bj).length r.1)).σ a0 w'->(∀b,N b->¬F b->aA b/\w'.heap[b]? =u.heap[b]?)->
      ad w0 M w' aA bW (xs++bj) r->(∀G:au,J G F->(∀b,G b->N b)->J G bW)->dW P Q (bR.put d (R (xs++bj).length r.1)) a0 w') (hop:rG P n bR.cF.opsOf bR.cF.idx bR.σ=some (R lx p.1,R ly q.1,GT.width α,by',d):=by kernel_rfl) (ca:bR.cF.kG=true:=by kernel_rfl):dW P Q bR a w:=
  ⟨lo (aj.CT S (hx:=hx) (hyr:=hyr) (hfl:=hfl) (hlx:=hlx) (hly:=hly) (hop:=hop) (hl:=hl) (K:=fun _ _ _ _ _ h0 h1 an aF=>(K _ _ _ _ _ h0 h1 an aF).ok)) ca⟩
theorem aj.lC {bR:dp} {α:Type} [GT α] {bj:List α} {p q:aC α} {F:au} {by' lx ly:Nat} {d:Tmp} (S:aj P n w0 M u N β bR.σ a w) (hx:ad w0 M u N F ([]:List α) p) (hyr:sO u N bj q) (hfl:∀(x:α) (r:GT.Ptr α),GT.rd b7 N u x r->GT.own b7 ab u x r) (hly:ly=bj.length) (K:∀a0 w' aA r bW,aj P n w0 M w' aA β (bR.put d (R bj.length r.1)).σ a0 w'->(∀b,N b->¬F b->aA b/\w'.heap[b]? =u.heap[b]?)->
      ad w0 M w' aA bW bj r->(∀G:au,J G F->(∀b,G b->N b)->J G bW)->dW P Q (bR.put d (R bj.length r.1)) a0 w') (hlx:lx=0:=by rfl) (hop:rG P n bR.cF.opsOf bR.cF.idx bR.σ=some (R lx p.1,R ly q.1,GT.width α,by',d):=by kernel_rfl) (ca:bR.cF.kG=true:=by kernel_rfl):dW P Q bR a w:=
  ⟨lo (aj.lH S (hx:=hx) (hyr:=hyr) (hfl:=hfl) (hly:=hly) (hlx:=hlx) (hop:=hop) (K:=fun _ _ _ _ _ h0 h1 an aF=>(K _ _ _ _ _ h0 h1 an aF).ok)) ca⟩
theorem aj.W1 {bR:dp} {α:Type} [GT α] {xs:List α} {p:aC α} {F Fy:au} {k j off:Nat} {t:TypeId} {v:Value} {y:α} {q:GT.Ptr α} (S:aj P n w0 M u N β bR.σ a w) (hx:ad w0 M u N F xs p) (hy:∀G,GT.own b7 G u (el xs k) (p.2 k)->(∀b,G b->F b)->∃gJ,GT.own b7 gJ u y q/\∀b,gJ b->G b\/Fy b) (hd:J F Fy) (hyN:∀b,Fy b->N b) (hyY:∀b,Fy b->w0.heap.size<=b\/M b) (K:∀w' aA bW cw,aj P n w0 M w' aA β bR.q4.σ a w'->(∀b,N b->¬F b->aA b/\w'.heap[b]? =u.heap[b]?)->
      ad w0 M w' aA bW (xs.set k y) (p.1,cw)->(∀G:au,J G F->J G Fy->(∀b,G b->N b)->J G bW)->(∀b,bW b->F b\/Fy b)->(∀b,N b->aA b)->dW P Q bR.q4 a w') (hop:pI bR.cF.opsOf bR.cF.idx bR.σ=some (t,bg p.1.b off,v):=by kernel_rfl) (hoff:off=p.1.off+k*GT.width α+j:=by kernel_rfl) (hk:k<xs.length:=by omega) (hs:ji P t=some v.cells.toList.length:=by kernel_rfl) (hpl:v.cells.toList.all (·.oneCell')=true:=by kernel_rfl) (hjw:Nat.ble (j+v.cells.toList.length) (GT.width α)=true:=by kernel_rfl) (hc:GT.cells y q=(GT.cells (el xs k) (p.2 k)).take j++v.cells.toList++(GT.cells (el xs k) (p.2 k)).drop (j+v.cells.toList.length):=by kernel_rfl) (ca:bR.cF.kG=true:=by kernel_rfl):dW P Q bR a w:=
  ⟨lo (aj.ajN S (hx:=hx) (hy:=hy) (hd:=hd) (hyN:=hyN) (hyY:=hyY) (hop:=hop) (hoff:=hoff) (hk:=hk) (hs:=hs) (hpl:=hpl) (hjw:=hjw) (hc:=hc) (K:=fun _ _ _ _ h0 h1 an aF b2 bl=>(K _ _ _ _ h0 h1 an aF b2 bl).ok)) ca⟩
theorem aj.fM {bR:dp} {α:Type} [GT α] {xs:List α} {p:aC α} {F:au} {k j off:Nat} {t:TypeId} {v:Value} {y:α} {q:GT.Ptr α} (S:aj P n w0 M u N β bR.σ a w) (hx:ad w0 M u N F xs p) (hy:∀G,GT.own b7 G u (el xs k) (p.2 k)->(∀b,G b->F b)->∃gJ,GT.own b7 gJ u y q/\∀b,gJ b->G b\/ab b) (K:∀w' aA bW cw,aj P n w0 M w' aA β bR.q4.σ a w'->(∀b,N b->¬F b->aA b/\w'.heap[b]? =u.heap[b]?)->
      ad w0 M w' aA bW (xs.set k y) (p.1,cw)->(∀G:au,J G F->J G ab->(∀b,G b->N b)->J G bW)->(∀b,bW b->F b\/ab b)->(∀b,N b->aA b)->dW P Q bR.q4 a w') (hop:pI bR.cF.opsOf bR.cF.idx bR.σ=some (t,bg p.1.b off,v):=by kernel_rfl) (hoff:off=p.1.off+k*GT.width α+j:=by kernel_rfl) (hk:k<xs.length:=by omega) (hs:ji P t=some v.cells.toList.length:=by kernel_rfl) (hpl:v.cells.toList.all (·.oneCell')=true:=by kernel_rfl) (hjw:Nat.ble (j+v.cells.toList.length) (GT.width α)=true:=by kernel_rfl) (hc:GT.cells y q=(GT.cells (el xs k) (p.2 k)).take j++v.cells.toList++(GT.cells (el xs k) (p.2 k)).drop (j+v.cells.toList.length):=by kernel_rfl) (ca:bR.cF.kG=true:=by kernel_rfl):dW P Q bR a w:=
  ⟨lo (aj.y1 S (hx:=hx) (hy:=hy) (hop:=hop) (hoff:=hoff) (hk:=hk) (hs:=hs) (hpl:=hpl) (hjw:=hjw) (hc:=hc) (K:=fun _ _ _ _ h0 h1 an aF b2 bl=>(K _ _ _ _ h0 h1 an aF b2 bl).ok)) ca⟩
theorem aj.eJ {bR:dp} {α:Type} [GT α] {xs:List α} {p:aC α} {F Fy:au} {k off:Nat} {t:TypeId} {y:α} {q:GT.Ptr α} (S:aj P n w0 M u N β bR.σ a w) (hx:ad w0 M u N F xs p) (hy:ad w0 M u N Fy y q) (hd:J F Fy) (K:∀w' aA bW cw,aj P n w0 M w' aA β bR.q4.σ a w'->(∀b,N b->¬F b->aA b/\w'.heap[b]? =u.heap[b]?)->
      ad w0 M w' aA bW (xs.set k y) (p.1,cw)->(∀G:au,J G F->J G Fy->(∀b,G b->N b)->J G bW)->(∀b,bW b->F b\/Fy b)->(∀b,N b->aA b)->dW P Q bR.q4 a w') (hop:pI bR.cF.opsOf bR.cF.idx bR.σ=some (t,bg p.1.b off,GT.val y q):=by kernel_rfl) (hoff:off=p.1.off+k*GT.width α+0:=by kernel_rfl) (hk:k<xs.length:=by omega) (hs:ji P t=some (GT.val y q).cells.toList.length:=by kernel_rfl) (hpl:(GT.val y q).cells.toList.all (·.oneCell')=true:=by kernel_rfl) (hjw:Nat.ble (0+(GT.val y q).cells.toList.length) (GT.width α)=true:=by kernel_rfl) (hc:GT.cells y q=(GT.cells (el xs k) (p.2 k)).take 0++(GT.val y q).cells.toList++(GT.cells (el xs k) (p.2 k)).drop (0+(GT.val y q).cells.toList.length):=by kernel_rfl) (ca:bR.cF.kG=true:=by kernel_rfl):dW P Q bR a w:=
  ⟨lo (aj.kO S (hx:=hx) (hy:=hy) (hd:=hd) (hop:=hop) (hoff:=hoff) (hk:=hk) (hs:=hs) (hpl:=hpl) (hjw:=hjw) (hc:=hc) (K:=fun _ _ _ _ h0 h1 an aF b2 bl=>(K _ _ _ _ h0 h1 an aF b2 bl).ok)) ca⟩
theorem aj.zr {bR:dp} {α:Type} [GT α] {xs:List α} {p:aC α} {F Fy:au} {k j off:Nat} {t:TypeId} {v:Value} {y:α} {q:GT.Ptr α} (S:aj P n w0 M u N β bR.σ a w) (hx:ad w0 M u N F xs p) (hk:k<xs.length) (hjw:j+v.cells.toList.length<=GT.width α) (hy:∀G,GT.own b7 G u (el xs k) (p.2 k)->(∀b,G b->F b)->∃gJ,GT.own b7 gJ u y q/\∀b,gJ b->G b\/Fy b) (hd:J F Fy) (hyN:∀b,Fy b->N b) (hyY:∀b,Fy b->w0.heap.size<=b\/M b) (K:∀w' aA bW cw,aj P n w0 M w' aA β bR.q4.σ a w'->(∀b,N b->¬F b->aA b/\w'.heap[b]? =u.heap[b]?)->
      ad w0 M w' aA bW (xs.set k y) (p.1,cw)->(∀G:au,J G F->J G Fy->(∀b,G b->N b)->J G bW)->(∀b,bW b->F b\/Fy b)->(∀b,N b->aA b)->dW P Q bR.q4 a w') (hop:pI bR.cF.opsOf bR.cF.idx bR.σ=some (t,bg p.1.b off,v):=by kernel_rfl) (hoff:off=p.1.off+k*GT.width α+j:=by kernel_rfl) (hs:ji P t=some v.cells.toList.length:=by kernel_rfl) (hpl:v.cells.toList.all (·.oneCell')=true:=by kernel_rfl) (hc:GT.cells y q=(GT.cells (el xs k) (p.2 k)).take j++v.cells.toList++(GT.cells (el xs k) (p.2 k)).drop (j+v.cells.toList.length):=by kernel_rfl) (ca:bR.cF.kG=true:=by kernel_rfl):dW P Q bR a w:=
  ⟨lo (aj.FN S (hx:=hx) (hop:=hop) (hoff:=hoff) (hk:=hk) (hs:=hs) (hpl:=hpl) (hjw:=hjw) (hc:=hc) (hy:=hy) (hd:=hd) (hyN:=hyN) (hyY:=hyY) (K:=fun _ _ _ _ h0 h1 an aF b2 bl=>(K _ _ _ _ h0 h1 an aF b2 bl).ok)) ca⟩
theorem aj.GX {bR:dp} {α:Type} [GT α] {xs:List α} {p:aC α} {F Fy:au} {k j off:Nat} {t:TypeId} {v:Value} {y:α} {q:GT.Ptr α} (S:aj P n w0 M u N β bR.σ a w) (hx:ad w0 M u N F xs p) (hk:k<xs.length) (hjw:j+v.cells.toList.length<=GT.width α) (hy:∀G,GT.own b7 G u (el xs k) (p.2 k)->(∀b,G b->F b)->∃gJ,GT.own b7 gJ u y q/\∀b,gJ b->G b\/Fy b) (hd:J F Fy) (hyN:∀b,Fy b->N b) (hyY:∀b,Fy b->w0.heap.size<=b\/M b) (K:∀w' aA bW,aj P n w0 M w' aA β bR.q4.σ a w'->(∀b,N b->¬F b->aA b/\w'.heap[b]? =u.heap[b]?)->
      ad w0 M w' aA bW (xs.set k y) ((p.1,fun i=>if i=k then q else p.2 i):aC α)->(∀G:au,J G F->J G Fy->(∀b,G b->N b)->J G bW)->(∀b,bW b->F b\/Fy b)->(∀b,N b->aA b)->dW P Q bR.q4 a w') (hop:pI bR.cF.opsOf bR.cF.idx bR.σ=some (t,bg p.1.b off,v):=by kernel_rfl) (hoff:off=p.1.off+k*GT.width α+j:=by kernel_rfl) (hs:ji P t=some v.cells.toList.length:=by kernel_rfl) (hpl:v.cells.toList.all (·.oneCell')=true:=by kernel_rfl) (hc:GT.cells y q=(GT.cells (el xs k) (p.2 k)).take j++v.cells.toList++(GT.cells (el xs k) (p.2 k)).drop (j+v.cells.toList.length):=by kernel_rfl) (ca:bR.cF.kG=true:=by kernel_rfl):dW P Q bR a w:=
  ⟨lo (aj.qt S (hx:=hx) (hop:=hop) (hoff:=hoff) (hk:=hk) (hs:=hs) (hpl:=hpl) (hjw:=hjw) (hc:=hc) (hy:=hy) (hd:=hd) (hyN:=hyN) (hyY:=hyY) (K:=fun _ _ _ h0 h1 an aF b2 bl=>(K _ _ _ h0 h1 an aF b2 bl).ok)) ca⟩
def dp.nJ (r:dp) (k b:Nat):dp:=⟨r.cF,r.σ.nJ k b,[]⟩
theorem aj.GR {bR:dp} (S:aj P n w0 M u N β bR.σ a w) {α:Type} [GT α] (k:Nat) (x:α) (p:GT.Ptr α) (hx:GT.own b7 ab w x p)
    (K:∀(cJ:Nat->Nat) (aA:au) (b:Nat) (F:au),aj P n w0 M w aA cJ (bR.nJ k b).σ a w->(∀b,N b->aA b/\w.heap[b]? =u.heap[b]?)->ad w0 M w aA F [x] (dA b p)->J N F->dW P Q (bR.nJ k b) a w)
    (hk:bR.σ.aM[k]? =some (GT.cells x p):=by kernel_rfl):dW P Q bR a w:=⟨S.nJ k x p hx (fun cJ aA b F h0 h1 an aF=>(K cJ aA b F h0 h1 an aF).ok) hk⟩
theorem aj.WI {bR:dp} (S:aj P n w0 M u N β bR.σ a w) {α:Type} [GT α] (k:Nat) {x:α} {p:GT.Ptr α} {uo:au} (hx:ad w0 M u N uo x p)
    (K:∀(cJ:Nat->Nat) (aA:au) (b:Nat) (F:au),aj P n w0 M w aA cJ (bR.nJ k b).σ a w->(∀b,N b->aA b/\w.heap[b]? =u.heap[b]?)->ad w0 M w aA F [x] (dA b p)->(∀H:au,J H uo->(∀b,H b->N b)->J H F)->dW P Q (bR.nJ k b) a w)
    (hk:bR.σ.aM[k]? =some (GT.cells x p):=by kernel_rfl):dW P Q bR a w:=⟨S.abM k hx (fun cJ aA b F h0 h1 an aF=>(K cJ aA b F h0 h1 an aF).ok) hk⟩
end
end Go.Proofs.YtjlocpdfcanlhaaGreat
namespace Go.Proofs.YtjlocpdfcanlhaaGreat
open Go
def qL (x:Int):Int:=(Lib.bitLen x.toNat:Int)
def gp (p:Int):Int:=if a3 p 0 255=true then qL p-1 else-1
def pR (p n:Nat):Bool:=jH (sE (p:Int) (n:Int)) 1==1
theorem aka:(List.range 256).all (fun p=>(List.range 8).all fun n=>(!pR p n|| !((List.range 8).all fun j=>decide (j<=n)|| !pR p j))||((Lib.bitLen p:Int)-1==n))=true:=by kernel_rfl
theorem akb:(List.range 256).all (fun p=>!((List.range 8).all fun j=>!pR p j)||((Lib.bitLen p:Int)-1== -1))=true:=by kernel_rfl
theorem aj_:(List.range 256).all (fun p=>decide (Lib.bitLen p<=8))=true:=by kernel_rfl
theorem aj7:(List.range 256).all (fun p=>Lib.bitLen p==0||(IntKind.i64.wrap ((p:Int)-oO 1 ((Lib.bitLen p:Int)-1))==vT (p:Int) (oO 1 ((Lib.bitLen p:Int)-1))))=true:=by kernel_rfl
theorem aj8 {p n:Int} (bD:a3 p 0 255=true) (cX:-1<=n/\n<=7) (h0:0<=n) (hb:jH (sE p n) 1=1) (ay:∀j:Nat,n<(j:Int)->j<8->¬jH (sE p (j:Int)) 1=1):gp p=n:=by
  have h1:=cU bD
  obtain⟨q,rfl⟩:=Int.eq_ofNat_of_zero_le h1.1
  obtain⟨m,rfl⟩:=Int.eq_ofNat_of_zero_le h0
  have hx:=List.all_eq_true.1 (List.all_eq_true.1 aka q (List.mem_range.2 (by omega))) m (List.mem_range.2 (by omega))
  have ct:pR q m=true:=by unfold pR;exact beq_iff_eq.2 hb
  have cA:((List.range 8).all fun j=>decide (j<=m)|| !pR q j)=true:=by
    rw [List.all_eq_true]
    intro j b0
    by_cases aeg:j<=m
    · simp [aeg]
    · have:=ay j (by omega) (List.mem_range.1 b0)
      have fe:pR q j=false:=by unfold pR;exact beq_eq_false_iff_ne.2 this
      simp [fe]
  rw [ct,cA] at hx
  simp only [Bool.not_true,Bool.or_self,Bool.false_or,beq_iff_eq] at hx
  unfold gp qL
  rw [if_pos bD]
  exact hx
theorem aj9 {p n:Int} (bD:a3 p 0 255=true) (h0:n<0) (ay:∀j:Nat,n<(j:Int)->j<8->¬jH (sE p (j:Int)) 1=1):gp p=-1:=by
  have h1:=cU bD
  obtain⟨q,rfl⟩:=Int.eq_ofNat_of_zero_le h1.1
  have hx:=List.all_eq_true.1 akb q (List.mem_range.2 (by omega))
  have cA:((List.range 8).all fun j=>!pR q j)=true:=by
    rw [List.all_eq_true]
    intro j b0
    have:=ay j (by omega) (List.mem_range.1 b0)
    have fe:pR q j=false:=by unfold pR;exact beq_eq_false_iff_ne.2 this
    simp [fe]
  rw [cA] at hx
  simp only [Bool.not_true,Bool.false_or,beq_iff_eq] at hx
  unfold gp qL
  rw [if_pos bD]
  exact hx
theorem Nz {p:Int} (bD:a3 p 0 255=false):gp p=-1:=by
  unfold gp;rw [if_neg (by simp [bD])]
theorem Cw (p:Int):-1<=gp p/\gp p<=7:=by
  unfold gp
  split
  · rename_i bD
    have h1:=cU bD
    have:=List.all_eq_true.1 aj_ p.toNat (List.mem_range.2 (by omega))
    have:=of_decide_eq_true this
    unfold qL
    omega
  · omega
def eE (p:Int):Int×Int×Bool:=if gp p<0 then(p,-1,false) else(vT p (oO 1 (gp p)),gp p,true)
theorem F0 {p:Int} (h:¬gp p<0):IntKind.i64.wrap (p-oO 1 (gp p))=vT p (oO 1 (gp p)):=by
  unfold gp at h ⊢
  by_cases bD:a3 p 0 255=true
  · rw [if_pos bD] at h ⊢
    have h1:=cU bD
    obtain⟨q,rfl⟩:=Int.eq_ofNat_of_zero_le h1.1
    have hx:=List.all_eq_true.1 aj7 q (List.mem_range.2 (by omega))
    have ed:(Lib.bitLen q==0)=false:=by
      rw [beq_eq_false_iff_ne]
      intro e
      apply h
      show(Lib.bitLen q:Int)-1<0
      omega
    rw [ed] at hx
    simp only [Bool.false_or,beq_iff_eq] at hx
    exact hx
  · rw [if_neg bD] at h
    exact absurd (by decide) h
def H_ (b:cP):cP×Int×Bool:=
  if jz b=true/\(eE b.aB).2.2=true then(⟨b.mem,b.U,b.outs,(eE b.aB).1⟩,(eE b.aB).2.1,true) else(b,-1,false)
theorem VV {p:Int} (h:a_ p):a_ (eE p).1:=by
  unfold eE
  split
  · exact h
  · exact afY _ _
theorem bitLenAux_le:∀(f x:Nat),Lib.bitLenAux f x<=f
  |
    0,_=>Nat.le_refl _
  |f+1,x=>by
    unfold Lib.bitLenAux
    split
    · omega
    · have:=bitLenAux_le f (x / 2)
      omega
theorem XM (x:Int):0<=qL x/\qL x<=64:=by
  have:=bitLenAux_le 64 x.toNat
  unfold qL Lib.bitLen
  omega
end Go.Proofs.YtjlocpdfcanlhaaGreat
namespace Go.Proofs.YtjlocpdfcanlhaaGreat
open Go
def QN (b:cP):cP×Bool:=((H_ b).1,(H_ b).2.2)
def aa1 (h:ah) (m n:Int):Int:=if eD h=true/\0<=m/\m<h.I.length then(H_ (e9 h m)).2.1 else n
def amX (h:ah) (m:Int):ah×Int×Bool:=((qO h m (QN (e9 h m))).1,aa1 h m (-1),(qO h m (QN (e9 h m))).2)
end Go.Proofs.YtjlocpdfcanlhaaGreat
namespace Go.Proofs.YtjlocpdfcanlhaaGreat
open Go
set_option linter.unusedVariables false
set_option linter.unusedSimpArgs false
def nD (k:bQ) (inner:List aQ) (page:Int):bQ:=(gv inner page).foldl j6 k
def p4 (t:List bQ) (g:List ax) (page:Int):Nat->List bQ
  |0=>t
  |k+1=>(p4 t g page k).set k (nD (el t k) (el g k).live page)
theorem FY (t:List bQ) (g:List ax) (page:Int) (k:Nat):(p4 t g page k).length=t.length:=by
  induction k with
  |zero=>rfl
  |succ k gh=>rw [p4,List.length_set,gh]
theorem VT (t:List bQ) (g:List ax) (page:Int) {k j:Nat} (h:k<=j):el (p4 t g page k) j=el t j:=by
  induction k with
  |zero=>rfl
  |succ k gh=>
    rw [p4]
    have e:=gh (by omega)
    unfold el at e ⊢
    rw [List.getD_eq_getElem?_getD,List.getElem?_set_ne (by omega),←List.getD_eq_getElem?_getD]
    exact e
def nG (e:aG) (host:Int):Bool:=e.host==host
theorem Uz {e:aG} {host:Int} (h:¬e.host=host):nG e host=false:=by simp [nG,h]
theorem UA {e:aG} {host:Int} (h:e.host=host):nG e host=true:=by simp [nG,h]
def g3 (b:List aG) (host:Int):List aG:=jB b fun e=>nG e host
def s3 (b:List aG) (p:Int):List aG:=if p=-1 then b else g3 b p
theorem DH {b:List aG} {p:Int} (h:p=-1):s3 b p=b:=if_pos h
theorem DI {b:List aG} {p:Int} (h:¬p=-1):s3 b p=g3 b p:=if_neg h
def mU (h:ah) (m page:Int) (s:aQ):ah:=
  ⟨h.mem,h.I.set m.toNat {el h.I m.toNat with tables:=p4 (el h.I m.toNat).tables (el h.I m.toNat).U page (el h.I m.toNat).U.length},s3 h.buf s.page,s3 h.ag s.page⟩
def gK (h:ah) (m page:Int) (s:aQ):ah:=
  ⟨h.mem,h.I.set m.toNat {el h.I m.toNat with tables:=p4 (el h.I m.toNat).tables (el h.I m.toNat).U page (el h.I m.toNat).U.length,outer:=(el h.I m.toNat).outer.set page.toNat s},
    s3 h.buf (el (el h.I m.toNat).outer page.toNat).page,s3 h.ag (el (el h.I m.toNat).outer page.toNat).page⟩
def j9 (h:ah) (m:Int) (x:aO):ah:=⟨h.mem,h.I.set m.toNat x,h.buf,h.ag⟩
def fJ (h:ah) (m page:Int):Bool:=xH h m&&a3 page 0 7
theorem K5 {x:aO} (h:hP x=true):x.outer.length=8/\x.out.length=8/\x.aT.length=8/\x.tables.length=x.U.length:=by
  have h1:=(q3 h).1
  simp only [hP,og,Bool.and_eq_true,decide_eq_true_eq] at h
  exact⟨h1,h.1.1.1.1.2,h.1.1.1.2,h.1.1.1.1.1.1.2⟩
theorem pj {h:ah} {m page:Int} (e:fJ h m page=true):(0<=m/\m<h.I.length)/\(0<=page/\page<=7)/\(el h.I m.toNat).outer.length=8/\(el h.I m.toNat).out.length=8/\(el h.I m.toNat).aT.length=8/\(el h.I m.toNat).tables.length=(el h.I m.toNat).U.length:=by
  simp only [fJ,Bool.and_eq_true] at e
  have h1:=EH e.1
  exact⟨h1.2,cU e.2,K5 (vL h1.1 (by omega))⟩
theorem adX {h:ah} {m page:Int} (e:fJ h m page=true):(el (el h.I m.toNat).outer page.toNat)=⟨-1,0⟩\/(0<=(el (el h.I m.toNat).outer page.toNat).page/\(el (el h.I m.toNat).outer page.toNat).page<=11):=by
  have an:=pj e
  simp only [fJ,Bool.and_eq_true] at e
  have h1:=EH e.1
  have aF:=Cv (q3 (vL h1.1 (k:=m.toNat) (by omega))).2 (k:=page.toNat) (by omega)
  simp only [g5,Bool.or_eq_true,Bool.and_eq_true,decide_eq_true_eq] at aF
  rcases aF with aF|aF
  · exact .inl aF
  · exact .inr (cU aF.1.2)
def anm (h:ah) (m page:Int):aQ:=el (el h.I m.toNat).outer page.toNat
theorem ajV {h:ah} {m page:Int} (e:fJ h m page=true) (h1:(el (el h.I m.toNat).outer page.toNat).page=-1):el (el h.I m.toNat).outer page.toNat=⟨-1,0⟩:=by
  rcases adX e with an|an
  · exact an
  · omega
theorem J4 {Y h:ah} {m page:Int} {s:aQ} (e:Y=mU h m page s) (hm:m.toNat<h.I.length):Y.I.length=h.I.length/\(el Y.I m.toNat).outer.length=(el h.I m.toNat).outer.length/\(el Y.I m.toNat).out.length=(el h.I m.toNat).out.length/\(el Y.I m.toNat).aT.length=(el h.I m.toNat).aT.length/\(el Y.I m.toNat).U.length=(el h.I m.toNat).U.length/\(el Y.I m.toNat).tables.length=(el h.I m.toNat).tables.length:=by
  subst e
  unfold mU
  simp only [dS hm,List.length_set,FY,and_self]
def amW (h:ah) (m page:Int):ah×Bool:=
  if fJ h m page=true then
    (if(el (el h.I m.toNat).outer page.toNat).page=-1 then j9 h m {el h.I m.toNat with aT:=(el h.I m.toNat).aT.set page.toNat false}
     else gK (j9 h m {el h.I m.toNat with aT:=(el h.I m.toNat).aT.set page.toNat false}) m page ⟨(el (el h.I m.toNat).outer page.toNat).page,1⟩,true)
  else(h,false)
def iu (h:ah) (m page:Int):ah:=
  gK (j9 h m {el h.I m.toNat with out:=(el h.I m.toNat).out.set page.toNat (hg h.mem (el (el h.I m.toNat).outer page.toNat).page)}) m page ⟨-1,0⟩
def anh (h:ah) (m page:Int):ah×Bool:=
  if fJ h m page=true/\¬(el (el h.I m.toNat).outer page.toNat).page=-1 then(iu h m page,true) else(h,false)
end Go.Proofs.YtjlocpdfcanlhaaGreat
namespace Go.Proofs.YtjlocpdfcanlhaaGreat
open Go
set_option linter.unusedVariables false
set_option linter.unusedSimpArgs false
def oP (p:Int) (l:List aQ):Nat:=(l.filter fun s=>decide (s.page=p)).length
def oI (p:Int) (ms:List aO):Nat:=(ms.map fun x=>oP p x.outer).sum
def one (c:Prop) [Decidable c]:Nat:=if c then 1 else 0
theorem wF (p:Int) (s:aQ) (r:List aQ):oP p (s::r)=one (s.page=p)+oP p r:=by
  unfold oP one
  by_cases h:s.page=p
  · rw [List.filter_cons_of_pos (by simpa using h),List.length_cons,if_pos h];omega
  · rw [List.filter_cons_of_neg (by simpa using h),if_neg h];omega
theorem wj (p:Int) (x:aO) (r:List aO):oI p (x::r)=oP p x.outer+oI p r:=by simp [oI]
theorem abK (l:List aQ):l.foldl n0 none=none:=by
  induction l with
  |nil=>rfl
  |cons s r gh=>rw [List.foldl_cons];exact gh
theorem Q7 (l:List aO):l.foldl pH none=none:=by
  induction l with
  |nil=>rfl
  |cons s r gh=>rw [List.foldl_cons];exact gh
theorem Nr {p:Int} (bD:0<=p):∀(l:List aQ) {u v:List Bool},p.toNat<u.length->l.foldl n0 (some u)=some v->v.length=u.length/\oP p l+one (el u p.toNat=true)=one (el v p.toNat=true)
  |
    [],u,v,hu,h=>by cases h;exact⟨rfl,by simp [oP]⟩
  |s::r,u,v,hu,h=>by
    rw [List.foldl_cons] at h
    rw [wF]
    by_cases h1:s.page<0
    · rw [Cr h1] at h
      obtain⟨ct,cA⟩:=Nr bD r hu h
      refine⟨ct,?_⟩
      rw [show one (s.page=p)=0 by unfold one;rw [if_neg (by omega)]]
      omega
    · cases an:el u s.page.toNat with
      |
        true=>rw [Nu h1 an,abK] at h;cases h
      |false=>
        rw [sF h1 an] at h
        obtain⟨ct,cA⟩:=Nr bD r (by rw [List.length_set];exact hu) h
        rw [List.length_set] at ct
        refine⟨ct,?_⟩
        by_cases aF:s.page=p
        · subst aF
          rw [dS hu] at cA
          rw [an]
          simp only [one] at cA ⊢
          simp at cA ⊢
          omega
        · rw [show el (u.set s.page.toNat true) p.toNat=el u p.toNat from uO (by omega)] at cA
          rw [show one (s.page=p)=0 by unfold one;rw [if_neg aF]]
          omega
theorem TX {p:Int} (bD:0<=p):∀(l:List aO) {u v:List Bool},p.toNat<u.length->l.foldl pH (some u)=some v->v.length=u.length/\oI p l+one (el u p.toNat=true)=one (el v p.toNat=true)
  |
    [],u,v,hu,h=>by cases h;exact⟨rfl,by simp [oI]⟩
  |x::r,u,v,hu,h=>by
    rw [List.foldl_cons] at h
    rw [wj]
    cases hm:hP x with
    |false=>rw [Nt hm,Q7] at h;cases h
    |true=>
      rw [Cq hm] at h
      cases an:x.outer.foldl n0 (some u) with
      |none=>rw [an,Q7] at h;cases h
      |some aqb=>
        rw [an] at h
        obtain⟨ct,cA⟩:=Nr bD x.outer hu an
        obtain⟨fe,pY⟩:=TX bD r (by omega) h
        exact⟨by omega,by omega⟩
theorem aif {h:ah} (e:eD h=true) {p:Int} (bD:0<=p/\p<=11):oI p h.I<=1:=by
  simp only [eD,Bool.and_eq_true,s4] at e
  obtain⟨v,b5⟩:=Option.isSome_iff_exists.mp e.2
  obtain⟨_,pY⟩:=TX bD.1 h.I (by rw [List.length_replicate];omega) b5
  have:one (el v p.toNat=true)<=1:=by unfold one;split<;>omega
  omega
theorem VJ (p:Int) (s:aQ):∀(l:List aQ) (k:Nat),k<l.length->oP p (l.set k s)+one ((el l k).page=p)=oP p l+one (s.page=p)
  |
    [],k,h=>by simp at h
  |x::r,0,h=>by rw [List.set_cons_zero,wF,wF,show el (x::r) 0=x from rfl];omega
  |x::r,k+1,h=>by
    have:=VJ p s r k (by simpa using h)
    rw [List.set_cons_succ,wF,wF,show el (x::r) (k+1)=el r k by simp [el]];omega
theorem UJ (p:Int) (y:aO):∀(l:List aO) (k:Nat),k<l.length->oI p (l.set k y)+oP p (el l k).outer=oI p l+oP p y.outer
  |
    [],k,h=>by simp at h
  |x::r,0,h=>by rw [List.set_cons_zero,wj,wj,show el (x::r) 0=x from rfl];omega
  |x::r,k+1,h=>by
    have:=UJ p y r k (by simpa using h)
    rw [List.set_cons_succ,wj,wj,show el (x::r) (k+1)=el r k by simp [el]];omega
theorem VI {p:Int}:∀{l:List aQ} {k:Nat},k<l.length->(el l k).page=p->1<=oP p l
  |
    [],k,h,_=>by simp at h
  |x::r,0,_,e=>by rw [wF,show one (x.page=p)=1 from if_pos e];omega
  |x::r,k+1,h,e=>by
    have:=VI (l:=r) (k:=k) (by simpa using h) (by simpa [el] using e)
    rw [wF];omega
theorem UI {p:Int}:∀{l:List aO} {k:Nat},k<l.length->oP p (el l k).outer<=oI p l
  |
    [],k,h=>by simp at h
  |x::r,0,_=>by rw [wj,show el (x::r) 0=x from rfl];omega
  |x::r,k+1,h=>by
    have:=UI (p:=p) (l:=r) (k:=k) (by simpa using h)
    rw [wj,show el (x::r) (k+1)=el r k by simp [el]];omega
theorem UH {l:List aQ} {page:Int} {k:Nat} (h:¬jV l page k<0):jV l page k<l.length/\(el l (jV l page k).toNat).page=page:=by
  by_cases hk:k<l.length
  · by_cases e:(el l k).page=page
    · rw [L5 hk e];exact⟨by omega,by simpa using e⟩
    · rw [L6 hk e] at h ⊢
      exact UH h
  · rw [L4 (by omega)] at h;omega
termination_by l.length-k
theorem UE {ms:List aO} {page:Int} {i:Nat} (h:¬(ir ms page i).1<0):(ir ms page i).1<ms.length/\0<=(ir ms page i).2/\(ir ms page i).2<(el ms (ir ms page i).1.toNat).outer.length/\(el (el ms (ir ms page i).1.toNat).outer (ir ms page i).2.toNat).page=page:=by
  by_cases hk:i<ms.length
  · by_cases e:jV (el ms i).outer page 0<0
    · have cA:ir ms page i=ir ms page (i+1):=by rw [ir,if_pos hk,if_pos e]
      rw [cA] at h ⊢
      exact UE h
    · have cA:ir ms page i=((i:Int),jV (el ms i).outer page 0):=by rw [ir,if_pos hk,if_neg e]
      rw [cA]
      have h1:=UH e
      exact⟨by show(i:Int)<_;omega,by show 0<=jV _ _ _;omega,h1.1,h1.2⟩
  · rw [L3 (by omega)] at h;exact absurd (show(-1:Int)<0 by decide) h
termination_by ms.length-i
theorem UL {h:ah} {p:Int} (e:¬(dX h p).1<0):(0<=(dX h p).1/\(dX h p).1<h.I.length)/\(0<=(dX h p).2/\(dX h p).2<(el h.I (dX h p).1.toNat).outer.length)/\(el (el h.I (dX h p).1.toNat).outer (dX h p).2.toNat).page=p:=by
  by_cases h0:p<0
  · rw [L9 h0] at e;exact absurd (show(-1:Int)<0 by decide) e
  · rw [L_ h0] at e ⊢
    have h1:=UE e
    exact⟨⟨by omega,h1.1⟩,⟨h1.2.1,h1.2.2.1⟩,h1.2.2.2⟩
theorem aih {h:ah} {p:Int} (e:oI p h.I=0):(dX h p).1<0:=by
  by_cases h0:(dX h p).1<0
  · exact h0
  · have h1:=UL h0
    have an:=UI (p:=p) (l:=h.I) (k:=(dX h p).1.toNat) (by omega)
    have aF:=VI (p:=p) (l:=(el h.I (dX h p).1.toNat).outer) (k:=(dX h p).2.toNat) (by omega) h1.2.2
    omega
theorem Rb {h:ah} {p:Nat} (bD:p<h.mem.length) (e:(dX h p).1<0):0<(eg h).length:=by
  have:(p:Int)∈eg h:=by
    unfold eg lL
    exact List.mem_map.mpr ⟨p,List.mem_filter.mpr ⟨List.mem_range.mpr bD,by simpa using e⟩,rfl⟩
  exact List.length_pos_of_mem this
theorem abL {h:ah} (e:¬0<(eg h).length) {p:Nat} (bD:p<h.mem.length):¬(dX h p).1<0:=fun h1=>e (Rb bD h1)
def lens (x:aO):Nat×Nat×Nat×Nat×Nat×Nat:=(x.outer.length,x.out.length,x.aT.length,x.U.length,x.tables.length,x.outs.length)
theorem Np {xs:List aO} {k:Nat} {y:aO} (h:lens y=lens (el xs k)) (j:Nat):lens (el (xs.set k y) j)=lens (el xs j):=by
  by_cases hk:k<xs.length
  · by_cases b0:k=j
    · subst b0;rw [dS hk];exact h
    · rw [uO (fun e=>b0 e.symm)]
  · rw [List.set_eq_of_length_le (by omega)]
theorem vU {x y:aO} (h:lens x=lens y):x.outer.length=y.outer.length/\x.out.length=y.out.length/\x.aT.length=y.aT.length/\x.U.length=y.U.length/\x.tables.length=y.tables.length/\x.outs.length=y.outs.length:=by
  simp only [lens,Prod.mk.injEq] at h;exact h
theorem FR (h:ah) (m page:Int) (s:aQ) (j:Nat):lens (el (gK h m page s).I j)=lens (el h.I j):=by
  unfold gK
  apply Np
  simp only [lens,FY,List.length_set]
theorem y2 {h:ah} {m:Int} {x:aO} (e:lens x=lens (el h.I m.toNat)) (j:Nat):lens (el (j9 h m x).I j)=lens (el h.I j):=Np e j
theorem VG (h:ah) (a b:Int) (j:Nat):lens (el (iu h a b).I j)=lens (el h.I j):=by
  unfold iu
  rw [FR,y2]
  simp only [lens,List.length_set]
theorem VF (h:ah) (a b:Int):(iu h a b).I.length=h.I.length:=by simp [iu,gK,j9]
theorem ajS {l A:List aO} {k:Nat} {y:aO} (h:A=l.set k y) (hk:k<l.length):A=l.set k (el A k):=by subst h;rw [dS hk]
theorem ajR {h:ah} {a b p:Int} (ay:a.toNat<h.I.length) (hb:b.toNat<(el h.I a.toNat).outer.length) (bD:0<=p) (e:(el (el h.I a.toNat).outer b.toNat).page=p):oI p (iu h a b).I+1=oI p h.I:=by
  have ct:(iu h a b).I=h.I.set a.toNat (el (iu h a b).I a.toNat):=by
    have iq:(iu h a b).I=_:=List.set_set _
    exact ajS iq ay
  have cA:(el (iu h a b).I a.toNat).outer=(el h.I a.toNat).outer.set b.toNat ⟨-1,0⟩:=by
    unfold iu gK j9
    simp only [dS ay,List.set_set]
  have h1:=UJ p (el (iu h a b).I a.toNat) h.I a.toNat ay
  have an:=VJ p ⟨-1,0⟩ (el h.I a.toNat).outer b.toNat hb
  rw [←ct,cA] at h1
  rw [show one ((el (el h.I a.toNat).outer b.toNat).page=p)=1 from if_pos e,show one ((-1:Int)=p)=0 from if_neg (by omega)] at an
  omega
theorem No {h:ah} (e:eD h=true) (bf:¬0<(eg h).length):(0<=(dX h 0).1/\(dX h 0).1<h.I.length)/\(0<=(dX h 0).2/\(dX h 0).2<=7)/\((el h.I (dX h 0).1.toNat).outer.length=8/\(el h.I (dX h 0).1.toNat).out.length=8/\(el h.I (dX h 0).1.toNat).aT.length=8/\(el h.I (dX h 0).1.toNat).tables.length=(el h.I (dX h 0).1.toNat).U.length)/\(el (el h.I (dX h 0).1.toNat).outer (dX h 0).2.toNat).page=0:=by
  have h1:=UL (abL bf (p:=0) (by have:=r_ e;omega))
  simp only [Int.ofNat_zero,show((0:Nat):Int)=0 from rfl] at h1
  have an:=K5 (vL e (k:=(dX h 0).1.toNat) (by omega))
  exact⟨h1.1,⟨h1.2.1.1,by omega⟩,an,h1.2.2⟩
def xJ (h:ah):ah:=iu h (dX h 0).1 (dX h 0).2
theorem VE {h:ah} (e:eD h=true) (bf:¬0<(eg h).length):0<(eg (xJ h)).length:=by
  have h1:=No e bf
  have an:=ajR (p:=0) (by omega) (by omega) (Int.le_refl 0) h1.2.2.2
  have aF:=aif e (p:=0) ⟨by decide,by decide⟩
  refine Rb (p:=0) ?_ (aih ?_)
  · show 0<h.mem.length
    have:=r_ e;omega
  · show oI 0 (iu h (dX h 0).1 (dX h 0).2).I=0
    omega
theorem VD {Y h:ah} (hY:Y=xJ h) (e:eD h=true) (bf:¬0<(eg h).length) (m:Nat):0<(eg Y).length/\Y.I.length=h.I.length/\(el Y.I m).outer.length=(el h.I m).outer.length/\(el Y.I m).out.length=(el h.I m).out.length/\(el Y.I m).aT.length=(el h.I m).aT.length/\(el Y.I m).U.length=(el h.I m).U.length/\(el Y.I m).tables.length=(el h.I m).tables.length:=by
  subst hY
  have h1:=vU (VG h (dX h 0).1 (dX h 0).2 m)
  exact⟨VE e bf,VF _ _ _,h1.1,h1.2.1,h1.2.2.1,h1.2.2.2.1,h1.2.2.2.2.1⟩
def js (m:List (List Int)) (p:Int) (c:List Int):List (List Int):=if(0<=p/\p<m.length)/\hh c=true then m.set p.toNat c else m
def j8 (h:ah):ah:=if 0<(eg h).length then h else xJ h
def o9 (h:ah) (m page:Int):ah:=
  gK ⟨js h.mem (el (eg h) 0) (el (el h.I m.toNat).out page.toNat),h.I.set m.toNat {el h.I m.toNat with out:=(el h.I m.toNat).out.set page.toNat []},h.buf,h.ag⟩ m page ⟨el (eg h) 0,3⟩
def ld (h:ah) (m page:Int):ah:=o9 (j8 h) m page
def ang (h:ah) (m page:Int):ah×Bool:=
  if fJ h m page=true/\(el (el h.I m.toNat).outer page.toNat).page=-1 then(ld h m page,true) else(h,false)
theorem adW {h:ah} {m page:Int} (e:fJ h m page=true):0<=(el (el h.I m.toNat).outer page.toNat).bd/\(el (el h.I m.toNat).outer page.toNat).bd<=3:=by
  have an:=pj e
  simp only [fJ,Bool.and_eq_true] at e
  have h1:=EH e.1
  have aF:=Cv (q3 (vL h1.1 (k:=m.toNat) (by omega))).2 (k:=page.toNat) (by omega)
  simp only [g5,Bool.or_eq_true,Bool.and_eq_true,decide_eq_true_eq] at aF
  rcases aF with aF|aF
  · rw [aF];exact⟨by decide,by decide⟩
  · have:=cU aF.2;omega
theorem r1 {h:ah} {m page:Int} (e:fJ h m page=true):eD h=true:=by
  simp only [fJ,Bool.and_eq_true] at e
  exact(EH e.1).1
def hz (h:ah) (m page:Int):ah:=if(el (el h.I m.toNat).outer page.toNat).page=-1 then ld h m page else h
def qP (h:ah) (m page:Int):ah:=
  if e8 (el (el h.I m.toNat).outer page.toNat).bd 2=true then j9 h m {el h.I m.toNat with aT:=(el h.I m.toNat).aT.set page.toNat true}
  else gK (j9 h m {el h.I m.toNat with aT:=(el h.I m.toNat).aT.set page.toNat true}) m page ⟨(el (el h.I m.toNat).outer page.toNat).page,3⟩
def gm (h:ah) (m page need:Int):ah:=if e8 need 2=true then qP (hz h m page) m page else hz h m page
def ane (h:ah) (m page need:Int):ah×Bool:=if fJ h m page=true/\a3 need 1 3=true then(gm h m page need,true) else(h,false)
theorem QC {r:Int} (h:0<=r/\r<=3):e8 r 2=true↔ ¬jH r 2=0:=by
  have:r=0\/r=1\/r=2\/r=3:=by omega
  rcases this with e|e|e|e<;>subst e<;>decide
theorem M6 {h:ah} {m page:Int} (e:fJ h m page=true):0<(eg (j8 h)).length/\(j8 h).I.length=h.I.length/\lens (el (j8 h).I m.toNat)=lens (el h.I m.toNat):=by
  unfold j8
  split
  · rename_i bf;exact⟨bf,rfl,rfl⟩
  · rename_i bf;exact⟨VE (r1 e) bf,VF _ _ _,VG _ _ _ _⟩
theorem FH {h Y:ah} (e:Y=iu h (dX h 0).1 (dX h 0).2) (cX:¬0<(eg h).length):Y=j8 h:=by unfold j8;rw [if_neg cX];exact e
theorem FG {h:ah} (bD:0<(eg h).length):h=j8 h:=by unfold j8;rw [if_pos bD]
theorem Vx {h Y:ah} {m page:Int} (hY:Y=j8 h) (e:fJ h m page=true):0<(eg Y).length/\Y.I.length=h.I.length/\(el Y.I m.toNat).outer.length=8/\(el Y.I m.toNat).out.length=8/\(el Y.I m.toNat).aT.length=8/\(el Y.I m.toNat).tables.length=(el Y.I m.toNat).U.length:=by
  subst hY
  have h1:=pj e
  have an:=M6 e
  have aF:=vU an.2.2
  exact⟨an.1,an.2.1,by omega,by omega,by omega,by omega⟩
theorem aiA {h:ah} {m page:Int} (hm:m.toNat<h.I.length) (bD:page.toNat<(el h.I m.toNat).outer.length):el (el (o9 h m page).I m.toNat).outer page.toNat=⟨el (eg h) 0,3⟩:=by
  unfold o9 gK
  simp only [dS hm,dS bD,List.set_set]
theorem U9 (h:ah) (m page:Int) (j:Nat):lens (el (o9 h m page).I j)=lens (el h.I j):=by
  unfold o9
  rw [FR]
  apply Np
  simp only [lens,List.length_set]
theorem Ie {Y h:ah} {m page:Int} (hY:Y=ld h m page) (e:fJ h m page=true):(Y.I.length=h.I.length/\(el Y.I m.toNat).outer.length=8/\(el Y.I m.toNat).out.length=8/\(el Y.I m.toNat).aT.length=8/\(el Y.I m.toNat).tables.length=(el Y.I m.toNat).U.length)/\(el (el Y.I m.toNat).outer page.toNat).bd=3:=by
  subst hY
  have h1:=pj e
  have an:=M6 e
  have aF:=vU an.2.2
  have b2:=vU (U9 (j8 h) m page m.toNat)
  have bl:(o9 (j8 h) m page).I.length=(j8 h).I.length:=by simp [o9,gK]
  have cR:=aiA (h:=j8 h) (m:=m) (page:=page) (by omega) (by omega)
  unfold ld
  rw [cR]
  exact⟨⟨by omega,by omega,by omega,by omega,by omega⟩,rfl⟩
theorem Bf {Y h:ah} {m page:Int} (hY:Y=hz h m page) (e:fJ h m page=true):(Y.I.length=h.I.length/\(el Y.I m.toNat).outer.length=8/\(el Y.I m.toNat).out.length=8/\(el Y.I m.toNat).aT.length=8/\(el Y.I m.toNat).tables.length=(el Y.I m.toNat).U.length)/\0<=(el (el Y.I m.toNat).outer page.toNat).bd/\(el (el Y.I m.toNat).outer page.toNat).bd<=3:=by
  unfold hz at hY
  split at hY
  · have h1:=Ie hY e;exact⟨h1.1,by omega,by omega⟩
  · subst hY
    have h1:=pj e
    exact⟨⟨rfl,h1.2.2.1,h1.2.2.2.1,h1.2.2.2.2.1,h1.2.2.2.2.2⟩,adW e⟩
theorem EJ {h:ah} {m page:Int} (e:¬(el (el h.I m.toNat).outer page.toNat).page=-1):hz h m page=h:=if_neg e
theorem EL {h Y:ah} {m page:Int} (hY:Y=ld h m page) (e:(el (el h.I m.toNat).outer page.toNat).page=-1):hz h m page=Y:=by
  unfold hz;rw [if_pos e,hY]
theorem tv {h Y:ah} {m page:Int} (hY:Y=ld h m page) (e:el (el h.I m.toNat).outer page.toNat=⟨-1,0⟩):Y=hz h m page:=by rw [hY];exact(if_pos (by rw [e])).symm
theorem tu {h:ah} {m page:Int} (p:fJ h m page=true) (e:¬el (el h.I m.toNat).outer page.toNat=⟨-1,0⟩):hz h m page=h:=if_neg fun aF=>e (ajV p aF)
theorem EK {h Y:ah} {m page:Int} (p:fJ h m page=true) (h1:hz h m page=Y):m.toNat<Y.I.length:=by
  have an:=pj p
  have aF:=Bf h1.symm p
  omega
theorem K2 {h Y:ah} {m page need:Int} (p:fJ h m page=true) (h1:hz h m page=Y) (an:e8 need 2=false):gm h m page need=Y:=by
  unfold gm;rw [if_neg (by rw [an];exact fun e=>by cases e),h1]
theorem K4 {h Y:ah} {m page need:Int} {X:List aO} (p:fJ h m page=true) (h1:hz h m page=Y) (an:e8 need 2=true) (fP:X=Y.I.set m.toNat {el Y.I m.toNat with aT:=(el Y.I m.toNat).aT.set page.toNat true})
    (aF:e8 (el (el X m.toNat).outer page.toNat).bd 2=true):gm h m page need=⟨Y.mem,X,Y.buf,Y.ag⟩:=by
  subst fP
  rw [dS (EK p h1)] at aF
  unfold gm qP
  rw [if_pos an,h1,if_pos aF]
  rfl
theorem K3 {h Y:ah} {m page need:Int} {X:List aO} (p:fJ h m page=true) (h1:hz h m page=Y) (an:e8 need 2=true) (fP:X=Y.I.set m.toNat {el Y.I m.toNat with aT:=(el Y.I m.toNat).aT.set page.toNat true})
    (aF:e8 (el (el X m.toNat).outer page.toNat).bd 2=false):gm h m page need=gK ⟨Y.mem,X,Y.buf,Y.ag⟩ m page ⟨(el (el X m.toNat).outer page.toNat).page,3⟩:=by
  subst fP
  rw [dS (EK p h1)] at aF ⊢
  unfold gm qP
  rw [if_pos an,h1,if_neg (by rw [aF];exact fun e=>by cases e)]
  rfl
theorem age {h Y Z:ah} {m page need:Int} {X mH:List aO} {s:aQ} (p:fJ h m page=true) (h1:hz h m page=Y) (an:e8 need 2=true) (fP:X=Y.I.set m.toNat {el Y.I m.toNat with aT:=(el Y.I m.toNat).aT.set page.toNat true})
    (aF:e8 (el (el X m.toNat).outer page.toNat).bd 2=false) (x9:mH=X.set m.toNat {el X m.toNat with outer:=(el X m.toNat).outer.set page.toNat ⟨(el (el X m.toNat).outer page.toNat).page,3⟩}) (hs:s=el (el X m.toNat).outer page.toNat) (x_:Z=mU ⟨Y.mem,mH,Y.buf,Y.ag⟩ m page s):gm h m page need=Z:=by
  rw [K3 p h1 an fP aF,x_,x9,hs]
  have hl:m.toNat<X.length:=by rw [fP,List.length_set];exact EK p h1
  unfold gK mU
  simp only [dS hl,List.set_set]
theorem Dw {r:Int} (h:0<=r/\r<=3) (e:jH r 2=0):e8 r 2=false:=by
  cases h1:e8 r 2 with
  |false=>rfl
  |true=>exact absurd e ((QC h).1 h1)
theorem xA {r:Int} (h:0<=r/\r<=3) (e:¬jH r 2=0):e8 r 2=true:=(QC h).2 e
theorem EM {h Y:ah} {m page:Int} {X:List aO} (p:fJ h m page=true) (h1:hz h m page=Y) (fP:X=Y.I.set m.toNat {el Y.I m.toNat with aT:=(el Y.I m.toNat).aT.set page.toNat true}):0<=(el (el X m.toNat).outer page.toNat).bd/\(el (el X m.toNat).outer page.toNat).bd<=3:=by
  rw [fP,dS (EK p h1)]
  exact(Bf h1.symm p).2
theorem agf {h Y:ah} {m page need:Int} (hY:Y=gm h m page need) (p:fJ h m page=true):(Y.I.length=h.I.length/\(el Y.I m.toNat).outer.length=8):=by
  have h1:=Bf (rfl:hz h m page=hz h m page) p
  have an:(qP (hz h m page) m page).I.length=(hz h m page).I.length/\lens (el (qP (hz h m page) m page).I m.toNat)=lens (el (hz h m page).I m.toNat):=by
    unfold qP
    split
    · exact⟨by simp [j9],y2 (by simp only [lens,List.length_set]) _⟩
    · exact⟨by simp [j9,gK],by rw [FR,y2 (by simp only [lens,List.length_set])]⟩
  have aF:=vU an.2
  subst hY
  unfold gm
  split
  · omega
  · exact⟨h1.1.1,h1.1.2.1⟩
def amS (b:cP) (page cell v:Int):cP×Bool:=
  if jz b=true/\(0<=page/\page<8)/\(0<=cell/\cell<4)/\a3 v 0 99=true then(⟨gf b.mem page cell v,b.U,b.outs,b.aB⟩,true) else(b,false)
def abn (h:ah) (m page cell v:Int):Bool:=fJ h m page&&a3 cell 0 3&&a3 v 0 99
def am3 (h:ah) (m page cell v:Int):ah×Bool:=
  if abn h m page cell v=true then(⟨gf (gm h m page 2).mem (el (el (gm h m page 2).I m.toNat).outer page.toNat).page cell v,(gm h m page 2).I,(gm h m page 2).buf,(gm h m page 2).ag⟩,true) else(h,false)
end Go.Proofs.YtjlocpdfcanlhaaGreat
namespace Go.Proofs.YtjlocpdfcanlhaaGreat
open Go
set_option linter.unusedVariables false
set_option linter.unusedSimpArgs false
def ds (b:List aG) (tag page:Int):aG×Bool:=
  match b.find? (fun e=>h7 e tag page) with
  |some e=>(e,true)
  |none=>(⟨0,0,0,0⟩,false)
theorem QY {b:List aG} {tag page:Int} {k:Nat} (hk:b.length<=k) (h:(b.take k).find? (fun e=>h7 e tag page)=none):ds b tag page=(⟨0,0,0,0⟩,false):=by
  rw [fb hk] at h
  unfold ds;rw [h]
theorem QZ {b:List aG} {tag page:Int} {k:Nat} (hk:k<b.length) (h:(b.take k).find? (fun e=>h7 e tag page)=none) (h1:h7 (el b k) tag page=true):ds b tag page=(el b k,true):=by
  have e:b.find? (fun e=>h7 e tag page)=some (el b k):=by
    have iq:b=b.take k++el b k::b.drop (k+1):=by
      rw [p0 hk,←List.drop_eq_getElem_cons hk,List.take_append_drop]
    rw [iq,List.find?_append,h,Option.none_or,List.find?_cons,←iq,h1]
  unfold ds;rw [e]
theorem s8 {b:List aG} {tag page:Int} {k:Nat} (hk:k<b.length) (h:(b.take k).find? (fun e=>h7 e tag page)=none) (h1:h7 (el b k) tag page=false):(b.take (k+1)).find? (fun e=>h7 e tag page)=none:=by
  rw [jh hk,List.find?_append,h,Option.none_or,List.find?_cons,h1];rfl
theorem QX {K:Nat} {F:au} {w:World} {b:List aG} {p:aC aG} (h:GT.rd K F w b p) (tag page:Int):e7 (ds b tag page).1:=by
  unfold ds
  split
  · rename_i e he
    obtain⟨i,hi,ct⟩:=List.getElem_of_mem (List.mem_of_find?_eq_some he)
    have an:=af.el h i hi
    rw [p0 hi,ct] at an
    exact an
  · exact⟨⟨by decide,by decide⟩,⟨by decide,by decide⟩,⟨by decide,by decide⟩,⟨by decide,by decide⟩⟩
def dE (b:List aG) (e:aG):List aG:=(cK b e.tag e.page++[e]).drop ((cK b e.tag e.page++[e]).length-6)
def aV (k:bQ) (page:Int):aQ×Bool:=
  if((0<=page/\page<k.known.length)/\page<k.aY.length)/\el k.known page.toNat=true then(el k.aY page.toNat,true) else(⟨-1,0⟩,false)
theorem CV {K:Nat} {F:au} {w:World} {k:bQ} {p:fm} (h:GT.rd K F w k p) (page:Int):ea (aV k page).1:=by
  unfold aV
  split
  · exact af.el (er.aY (d:=k) h) _ (by omega)
  · exact⟨⟨by decide,by decide⟩,⟨by decide,by decide⟩⟩
def lb (a b:Int):Int:=if a3 a 0 3=true/\a3 b 0 3=true then jH a b else 0
theorem XN (a b:Int):0<=lb a b/\lb a b<=3:=by
  unfold lb
  split
  · rename_i h
    have h1:=cU h.1
    have an:=cU h.2
    have ct:a=0\/a=1\/a=2\/a=3:=by omega
    have cA:b=0\/b=1\/b=2\/b=3:=by omega
    rcases ct with e|e|e|e<;>rcases cA with f|f|f|f<;>subst e<;>subst f<;>decide
  · omega
theorem XO (a b:Int):a_ (lb a b):=by
  have:=XN a b;exact⟨by omega,by omega⟩
def hM (s:aQ) (t:List aQ):aQ:=
  if s.page=-1\/(eO t s.page).page=-1\/lb s.bd (eO t s.page).bd=0 then⟨-1,0⟩ else⟨(eO t s.page).page,lb s.bd (eO t s.page).bd⟩
theorem P_ {K:Nat} {F:au} {w:World} {t:List aQ} {p:aC aQ} (h:GT.rd K F w t p) (s:aQ):ea (hM s t):=by
  unfold hM
  split
  · exact⟨⟨by decide,by decide⟩,⟨by decide,by decide⟩⟩
  · exact⟨(ajU h s.page).1,XO _ _⟩
def lf (k:bQ) (inner outer:List aQ) (page:Int):bQ:=
  if((0<=page/\page<k.known.length)/\page<k.aY.length)/\page<inner.length then⟨k.known.set page.toNat true,k.aY.set page.toNat (hM (el inner page.toNat) outer)⟩ else k
theorem Ra {α β:Type} [GT α] {f:β->α->β} {y:α}:∀{xs:List α} {k:Nat},k<xs.length->(∀u,f u y=f u (el xs k))->∀z,(xs.set k y).foldl f z=xs.foldl f z
  |
    [],k,h,_,_=>by simp at h
  |x::r,0,_,e,z=>by rw [List.set_cons_zero,List.foldl_cons,List.foldl_cons,e z];rfl
  |x::r,k+1,h,e,z=>by
    rw [List.set_cons_succ,List.foldl_cons,List.foldl_cons]
    exact Ra (by simpa using h) (fun u=>by have:=e u;rwa [show el (x::r) (k+1)=el r k by simp [el]] at this) _
theorem agh {x:aO} {d:List Bool} (h:d.length=x.aT.length):hP {x with aT:=d}=hP x:=by
  have h1:og {x with aT:=d}=og x:=by unfold og;simp only [h]
  have an:qN {x with aT:=d}=qN x:=rfl
  have aF:nH {x with aT:=d}=nH x:=rfl
  unfold hP
  rw [h1,an,aF]
def qM (h:ah) (m q:Int):ah:=j9 h m {el h.I m.toNat with aT:=(el h.I m.toNat).aT.set q.toNat true}
theorem aeG {h:ah} {m q:Int} (hm:m.toNat<h.I.length):eD (qM h m q)=eD h:=by
  have h1:p2 (qM h m q)=p2 h:=by
    unfold p2 qM j9
    simp only [List.length_set]
  have an:s4 (qM h m q)=s4 h:=by
    unfold s4 qM j9
    refine Ra hm (fun u=>?_) _
    unfold pH
    rw [agh List.length_set]
  unfold eD
  rw [h1,an]
theorem adV {h:ah} {m q p:Int} (e:fJ h m p=true):fJ (qM h m q) m p=true:=by
  have an:=pj e
  have h1:(qM h m q).I.length=h.I.length:=List.length_set
  simp only [fJ,xH,Bool.and_eq_true] at e ⊢
  rw [aeG (by omega),h1]
  exact e
theorem vX {h:ah} {m:Int} (e:(aK h m).2=true):(0<=m/\m<h.I.length)/\(aK h m).1=el h.I m.toNat/\(aK h m).1.U.length=(el h.I m.toNat).U.length:=by
  unfold aK at e ⊢
  split at e
  · rename_i hm;rw [if_pos hm];exact⟨hm,rfl,rfl⟩
  · cases e
def uQ (h:ah) (m g page need:Int):Int:=(cV (el (el h.I m.toNat).U g.toNat).live page need).1
theorem tY {h:ah} {m g page need:Int} (e:(cV (el (el h.I m.toNat).U g.toNat).live page need).2=true) (ym:eD h=true:=by assumption) (hm:0<=m/\m<h.I.length:=by omega) (aJ:0<=g/\g<(el h.I m.toNat).U.length:=by omega):
    fJ h m (cV (el (el h.I m.toNat).U g.toNat).live page need).1=true/\(0<=(cV (el (el h.I m.toNat).U g.toNat).live page need).1/\(cV (el (el h.I m.toNat).U g.toNat).live page need).1<=7)/\(el h.I m.toNat).outer.length=8/\(el h.I m.toNat).out.length=8/\(el h.I m.toNat).aT.length=8/\(el h.I m.toNat).tables.length=(el h.I m.toNat).U.length:=by
  have h0:=vL ym (k:=m.toNat) (by omega)
  have h1:kz (el (el h.I m.toNat).U g.toNat)=true:=by
    simp only [hP,Bool.and_eq_true] at h0
    exact sP h0.1.2 (by omega)
  have an:gV (el (el h.I m.toNat).U g.toNat).live 4 8=true:=by
    simp only [kz,Bool.and_eq_true] at h1
    exact h1.1.1.1.1.2
  have a9:0<=(cV (el (el h.I m.toNat).U g.toNat).live page need).1/\(cV (el (el h.I m.toNat).U g.toNat).live page need).1<=7:=by
    unfold cV at e ⊢
    split at e
    · cases e
    · rename_i cX
      rw [if_neg cX]
      simp only
      unfold eO at cX ⊢
      by_cases bD:0<=page/\page<((el (el h.I m.toNat).U g.toNat).live.length:Int)
      · rw [if_pos bD] at cX ⊢
        have aF:=Cv an (k:=page.toNat) (by omega)
        simp only [g5,Bool.or_eq_true,Bool.and_eq_true,decide_eq_true_eq] at aF
        rcases aF with aF|aF
        · rw [aF] at cX;exact absurd (Or.inl rfl) cX
        · exact cU aF.1.2
      · rw [if_neg bD] at cX;exact absurd (Or.inl rfl) cX
  refine⟨?_,a9,K5 h0⟩
  simp only [fJ,Bool.and_eq_true]
  refine⟨afI ⟨ym,hm⟩,?_⟩
  simp only [a3,Bool.and_eq_true,decide_eq_true_eq]
  exact a9
theorem F2 {h:ah} {m g page need:Int} (e:(cV (el (aK h m).1.U g.toNat).live page need).2=true) (ym:eD h=true:=by assumption) (hm:(aK h m).2=true:=by assumption) (aJ:0<=g/\g<(aK h m).1.U.length:=by omega):
    fJ h m (cV (el (aK h m).1.U g.toNat).live page need).1=true/\(0<=(cV (el (aK h m).1.U g.toNat).live page need).1/\(cV (el (aK h m).1.U g.toNat).live page need).1<=7)/\(el h.I m.toNat).outer.length=8/\(el h.I m.toNat).out.length=8/\(el h.I m.toNat).aT.length=8/\(el h.I m.toNat).tables.length=(el h.I m.toNat).U.length:=by
  have h1:=vX hm
  rw [h1.2.1] at e aJ ⊢
  exact tY e ym h1.1 aJ
def s5 (h:ah) (m g page need:Int):Bool:=
  eD h&&decide (0<=m/\m<h.I.length)&&decide (0<=g/\g<(el h.I m.toNat).U.length)&&decide (need=1\/need=2)&&(cV (el (el h.I m.toNat).U g.toNat).live page need).2
def p1 (h:ah) (io:Bool):List aG:=if io=true then h.ag else h.buf
def xI (h:ah) (io:Bool) (e:aG):ah:=if io=true then⟨h.mem,h.I,h.buf,dE h.ag e⟩ else⟨h.mem,h.I,dE h.buf e,h.ag⟩
def QQ (b:List aG) (tag page need:Int):Bool:=(ds b tag page).2&&e8 (ds b tag page).1.bd need
def DD (k:bQ) (page need:Int):Bool:=((!(aV k page).2)||((aV k page).1.page== -1))||(!e8 (aV k page).1.bd need)
def aba (k:bQ) (m g page:Int):aG:=⟨bO m g,page,(aV k page).1.page,(aV k page).1.bd⟩
def abb (z:aO) (g page:Int):List bQ:=z.tables.set g.toNat (lf (el z.tables g.toNat) (el z.U g.toNat).live z.outer page)
def DB (h:ah) (m g page:Int):ah:=j9 h m {el h.I m.toNat with tables:=abb (el h.I m.toNat) g page}
def rT (h:ah) (m g page:Int) (io:Bool):ah×Int×Bool:=
  (xI h io (aba (el (el h.I m.toNat).tables g.toNat) m g page),(aV (el (el h.I m.toNat).tables g.toNat) page).1.page,true)
def mV (h:ah) (m g page need q:Int) (io:Bool):ah×Int×Bool:=
  if QQ (p1 h io) (bO m g) page need=true then(h,(ds (p1 h io) (bO m g) page).1.host,true)
  else if DD (el (el h.I m.toNat).tables g.toNat) page need=true then rT (DB (gm h m q need) m g page) m g page io
  else rT h m g page io
def j5 (h:ah) (m q need:Int):ah:=if need=2 then qM h m q else h
def cL (h:ah) (m g page need:Int) (io:Bool):ah×Int×Bool:=
  if s5 h m g page need=true then mV (j5 h m (uQ h m g page need) need) m g page need (uQ h m g page need) io
  else(h,-1,false)
theorem EI {h:ah} {m g page need:Int} {io:Bool} (e:s5 h m g page need=false):cL h m g page need io=(h,-1,false):=by
  unfold cL;rw [if_neg (by rw [e];exact fun h=>by cases h)]
theorem af3 {h:ah} {m g page need:Int} {io:Bool} (e:((((!eD h)||(!(aK h m).2))||(!a3 g 0 (((aK h m).1.U.length:Int)-1)))||((need != 1)&&(need != 2)))=true):cL h m g page need io=(h,-1,false):=by
  apply EI
  rw [Bool.eq_false_iff]
  intro h1
  simp only [s5,Bool.and_eq_true,decide_eq_true_eq] at h1
  obtain⟨⟨⟨⟨an,aF⟩,b2⟩,bl⟩,_⟩:=h1
  have cA:aK h m=(el h.I m.toNat,true):=by unfold aK;rw [if_pos aF]
  have fe:a3 g 0 (((el h.I m.toNat).U.length:Int)-1)=true:=by
    simp only [a3,Bool.and_eq_true,decide_eq_true_eq];omega
  rw [an,cA,fe] at e
  rcases bl with bl|bl<;>subst bl<;>simp at e
theorem af4 {h:ah} {m g page need:Int} {io:Bool} (hm:(aK h m).2=true) (e:(cV (el (aK h m).1.U g.toNat).live page need).2=false):cL h m g page need io=(h,-1,false):=by
  apply EI
  rw [(vX hm).2.1] at e
  unfold s5
  rw [e,Bool.and_false]
theorem af5 {h:ah} {m g page need:Int} {io:Bool} (e:((((!eD h)||(!a3 m 0 ((h.I.length:Int)-1)))||(!a3 g 0 (((el h.I m.toNat).U.length:Int)-1)))||((need != 1)&&(need != 2)))=true):cL h m g page need io=(h,-1,false):=by
  apply EI
  rw [Bool.eq_false_iff]
  intro h1
  simp only [s5,Bool.and_eq_true,decide_eq_true_eq] at h1
  obtain⟨⟨⟨⟨an,aF⟩,b2⟩,bl⟩,_⟩:=h1
  have cA:a3 m 0 ((h.I.length:Int)-1)=true:=by
    simp only [a3,Bool.and_eq_true,decide_eq_true_eq];omega
  have fe:a3 g 0 (((el h.I m.toNat).U.length:Int)-1)=true:=by
    simp only [a3,Bool.and_eq_true,decide_eq_true_eq];omega
  rw [an,cA,fe] at e
  rcases bl with bl|bl<;>subst bl<;>simp at e
theorem af6 {h:ah} {m g page need:Int} {io:Bool} (e:(cV (el (el h.I m.toNat).U g.toNat).live page need).2=false):cL h m g page need io=(h,-1,false):=by
  apply EI
  unfold s5
  rw [e,Bool.and_false]
theorem TO {h:ah} {m g page need:Int} {io:Bool} (h1:eD h=true) (an:0<=m/\m<h.I.length) (aF:0<=g/\g<(el h.I m.toNat).U.length) (b2:need=1\/need=2) (bl:(cV (el (el h.I m.toNat).U g.toNat).live page need).2=true):
    cL h m g page need io=mV (j5 h m (cV (el (el h.I m.toNat).U g.toNat).live page need).1 need) m g page need (cV (el (el h.I m.toNat).U g.toNat).live page need).1 io:=by
  unfold cL
  rw [if_pos (by unfold s5;rw [h1,bl,decide_eq_true an,decide_eq_true aF,decide_eq_true b2];rfl)]
  rfl
theorem KQ {h Y:ah} {m g page need:Int} {io:Bool} (h1:eD h=true) (an:(aK h m).2=true) (aF:0<=g/\g<(aK h m).1.U.length) (b2:need=1\/need=2) (bl:(cV (el (aK h m).1.U g.toNat).live page need).2=true) (gO:Y=j5 h m (cV (el (aK h m).1.U g.toNat).live page need).1 need):
    cL h m g page need io=mV Y m g page need (cV (el (aK h m).1.U g.toNat).live page need).1 io:=by
  subst gO
  have cR:=vX an
  rw [cR.2.1] at aF bl ⊢
  exact TO h1 cR.1 aF b2 bl
theorem KR {h:ah} {e1:List aO} {m g page need:Int} {io:Bool} (h1:eD h=true) (an:0<=m/\m<h.I.length) (aF:0<=g/\g<(el h.I m.toNat).U.length) (b2:need=1\/need=2) (bl:(cV (el (el h.I m.toNat).U g.toNat).live page need).2=true) (gO:e1=(j5 h m (cV (el (el h.I m.toNat).U g.toNat).live page need).1 need).I):
    cL h m g page need io=mV ⟨h.mem,e1,h.buf,h.ag⟩ m g page need (cV (el (el h.I m.toNat).U g.toNat).live page need).1 io:=by
  rw [TO h1 an aF b2 bl,gO]
  congr 1
  unfold j5
  split<;>rfl
theorem HU {h:ah} {X:List aO} {m q need:Int} (e:need=2) (fP:X=h.I.set m.toNat {el h.I m.toNat with aT:=(el h.I m.toNat).aT.set q.toNat true}):(⟨h.mem,X,h.buf,h.ag⟩:ah)=j5 h m q need:=by
  unfold j5;rw [if_pos e,fP];rfl
theorem HT {h:ah} {m q need:Int} (e:¬need=2):h=j5 h m q need:=(if_neg e).symm
theorem Dp {h:ah} {X:List aO} {m q need:Int} (e:need=2) (fP:X=h.I.set m.toNat {el h.I m.toNat with aT:=(el h.I m.toNat).aT.set q.toNat true}):X=(j5 h m q need).I:=congrArg ah.I (HU e fP)
theorem Qe {h:ah} {m q need:Int} (e:¬need=2):h.I=(j5 h m q need).I:=congrArg ah.I (HT e)
theorem TP {h:ah} {m g page need q:Int} {io:Bool} (e:((ds (p1 h io) (bO m g) page).2&&e8 (ds (p1 h io) (bO m g) page).1.bd need)=true):mV h m g page need q io=(h,(ds (p1 h io) (bO m g) page).1.host,true):=by
  unfold mV;exact if_pos e
theorem TS {h:ah} {m g page need q:Int} {io:Bool} (e:((ds (p1 h io) (bO m g) page).2&&e8 (ds (p1 h io) (bO m g) page).1.bd need)=false):
    mV h m g page need q io=if DD (el (el h.I m.toNat).tables g.toNat) page need=true then rT (DB (gm h m q need) m g page) m g page io else rT h m g page io:=by
  unfold mV;exact if_neg (fun h1=>by rw [show QQ _ _ _ _=false from e] at h1;cases h1)
theorem TQ {h:ah} {m g page need q:Int} {io:Bool} (e:((ds (p1 h io) (bO m g) page).2&&e8 (ds (p1 h io) (bO m g) page).1.bd need)=false)
    (cA:(((!(aV (el (el h.I m.toNat).tables g.toNat) page).2)||((aV (el (el h.I m.toNat).tables g.toNat) page).1.page== -1))||(!e8 (aV (el (el h.I m.toNat).tables g.toNat) page).1.bd need))=false):mV h m g page need q io=rT h m g page io:=by
  rw [TS e];exact if_neg (fun h1=>by rw [show DD _ _ _=false from cA] at h1;cases h1)
theorem TR {h Z:ah} {X:List aO} {m g page need q:Int} {io:Bool} (e:((ds (p1 h io) (bO m g) page).2&&e8 (ds (p1 h io) (bO m g) page).1.bd need)=false)
    (cA:(((!(aV (el (el h.I m.toNat).tables g.toNat) page).2)||((aV (el (el h.I m.toNat).tables g.toNat) page).1.page== -1))||(!e8 (aV (el (el h.I m.toNat).tables g.toNat) page).1.bd need))=true) (x_:Z=gm h m q need)
    (fP:X=Z.I.set m.toNat {el Z.I m.toNat with tables:=(el Z.I m.toNat).tables.set g.toNat (lf (el (el Z.I m.toNat).tables g.toNat) (el (el Z.I m.toNat).U g.toNat).live (el Z.I m.toNat).outer page)}):mV h m g page need q io=rT ⟨Z.mem,X,Z.buf,Z.ag⟩ m g page io:=by
  subst fP x_
  rw [TS e,if_pos (show DD _ _ _=true from cA)]
  rfl
theorem aeF {h:ah} (e:eD h=true):h.buf.length<=6/\h.ag.length<=6:=by
  simp only [eD,p2,oc,Bool.and_eq_true,decide_eq_true_eq] at e
  omega
theorem z0 {h Y:ah} {m q need:Int} (gO:Y=j5 h m q need) (p:fJ h m q=true):fJ Y m q=true/\Y.I.length=h.I.length/\((el Y.I m.toNat).outer.length=8/\(el Y.I m.toNat).tables.length=(el Y.I m.toNat).U.length/\(el Y.I m.toNat).U.length=(el h.I m.toNat).U.length)/\Y.buf.length<=6/\Y.ag.length<=6:=by
  have h1:=pj p
  have an:=aeF (r1 p)
  unfold j5 at gO
  split at gO
  · subst gO
    have aF:=vU (y2 (h:=h) (m:=m) (x:={el h.I m.toNat with aT:=(el h.I m.toNat).aT.set q.toNat true}) (by simp only [lens,List.length_set]) m.toNat)
    refine⟨adV p,List.length_set,?_,an⟩
    unfold qM
    omega
  · subst gO
    exact⟨p,rfl,⟨h1.2.2.1,h1.2.2.2.2.2,rfl⟩,an⟩
theorem z1 {h:ah} {e1:List aO} {m q need:Int} (gO:e1=(j5 h m q need).I) (p:fJ h m q=true):fJ ⟨h.mem,e1,h.buf,h.ag⟩ m q=true/\e1.length=h.I.length/\((el e1 m.toNat).outer.length=8/\(el e1 m.toNat).tables.length=(el e1 m.toNat).U.length/\(el e1 m.toNat).U.length=(el h.I m.toNat).U.length)/\h.buf.length<=6/\h.ag.length<=6:=by
  have e:(⟨h.mem,e1,h.buf,h.ag⟩:ah)=j5 h m q need:=by
    rw [gO];unfold j5;split<;>rfl
  exact z0 e p
theorem DG (b:List aG) (p:Int):(s3 b p).length<=b.length:=by
  unfold s3
  split
  · exact Nat.le_refl _
  · exact wK _ _
theorem Nq (h:ah) (m page:Int) (s:aQ):(gK h m page s).buf.length<=h.buf.length/\(gK h m page s).ag.length<=h.ag.length:=⟨DG _ _,DG _ _⟩
theorem ajQ (h:ah) (a b:Int):(iu h a b).buf.length<=h.buf.length/\(iu h a b).ag.length<=h.ag.length:=Nq (j9 h a _) a b ⟨-1,0⟩
theorem aiY (h:ah):(j8 h).buf.length<=h.buf.length/\(j8 h).ag.length<=h.ag.length:=by
  unfold j8
  split
  · exact⟨Nat.le_refl _,Nat.le_refl _⟩
  · exact ajQ h _ _
theorem abr (h:ah) (m page:Int):(ld h m page).buf.length<=h.buf.length/\(ld h m page).ag.length<=h.ag.length:=by
  have h1:=aiY h
  unfold ld o9
  exact⟨Nat.le_trans (DG _ _) h1.1,Nat.le_trans (DG _ _) h1.2⟩
theorem agd (h:ah) (m page need:Int):(gm h m page need).buf.length<=h.buf.length/\(gm h m page need).ag.length<=h.ag.length:=by
  have h1:(hz h m page).buf.length<=h.buf.length/\(hz h m page).ag.length<=h.ag.length:=by
    unfold hz;split
    · exact abr h m page
    · exact⟨Nat.le_refl _,Nat.le_refl _⟩
  unfold gm
  split
  · unfold qP
    split
    · exact h1
    · exact⟨Nat.le_trans (Nq _ _ _ _).1 h1.1,Nat.le_trans (Nq _ _ _ _).2 h1.2⟩
  · exact h1
theorem K1 {h Z:ah} {m page need:Int} (x_:Z=gm h m page need) (p:fJ h m page=true):Z.I.length=h.I.length/\((el Z.I m.toNat).outer.length=8/\(el Z.I m.toNat).U.length=(el h.I m.toNat).U.length/\(el Z.I m.toNat).tables.length=(el h.I m.toNat).tables.length)/\Z.buf.length<=h.buf.length/\Z.ag.length<=h.ag.length:=by
  have h0:=agd h m page need
  have h1:=agf x_ p
  have hm:lens (el (hz h m page).I m.toNat)=lens (el h.I m.toNat):=by
    unfold hz;split
    · unfold ld;rw [U9];exact(M6 p).2.2
    · rfl
  have an:lens (el (gm h m page need).I m.toNat)=lens (el h.I m.toNat):=by
    unfold gm
    split
    · unfold qP
      split
      · rw [y2 (by simp only [lens,List.length_set])];exact hm
      · rw [FR,y2 (by simp only [lens,List.length_set])];exact hm
    · exact hm
  subst x_
  have aF:=vU an
  exact⟨h1.1,⟨h1.2,aF.2.2.2.1,aF.2.2.2.2.1⟩,h0⟩
theorem put_eq {X:List aG} {n:Nat} (h:n=X.length-6):X.drop (X.length-6)=(X.drop n).take (X.length-n):=by
  subst h;rw [List.take_of_length_le (by rw [List.length_drop];exact Nat.le_refl _)]
theorem Mh {X:List aG} (h:X.length<=6):X.drop (X.length-6)=X:=by
  rw [show X.length-6=0 by omega];rfl
def am0 (h:ah) (m g addr v:Int):ah×Bool:=
  if(a3 addr 0 15=true/\a3 v 0 99=true)/\(cL h m g (cr addr) 2 true).2.2=true then
    (⟨gf (cL h m g (cr addr) 2 true).1.mem (cL h m g (cr addr) 2 true).2.1 (dr addr) v,(cL h m g (cr addr) 2 true).1.I,(cL h m g (cr addr) 2 true).1.buf,(cL h m g (cr addr) 2 true).1.ag⟩,true)
  else(h,false)
def fB (m:List (List Int)) (p c:Int):Int:=if(0<=p/\p<m.length)/\0<=c/\c<(el m p.toNat).length then el (el m p.toNat) c.toNat else 0
theorem Hn {K:Nat} {F:au} {w:World} {m:List (List Int)} {q:aC (List Int)} (h:GT.rd K F w m q) (p c:Int):a_ (fB m p c):=by
  unfold fB
  split
  · exact af.el (af.el h _ (by omega)) _ (by omega)
  · exact⟨by decide,by decide⟩
def am5 (h:ah) (m g addr:Int):ah×Int×Bool:=
  if a3 addr 0 15=true/\(cL h m g (cr addr) 1 true).2.2=true then
    ((cL h m g (cr addr) 1 true).1,fB (cL h m g (cr addr) 1 true).1.mem (cL h m g (cr addr) 1 true).2.1 (dr addr),true)
  else(h,0,false)
end Go.Proofs.YtjlocpdfcanlhaaGreat
