/- Regions that draw their order: what only asks is taken first, the rest in whatever order. No program is named here. -/
import Derived.Test.YtkggcdhigchepaaGreatA1
import Derived.OrdersHeld
namespace Go.Proofs.YtkggcdhigchepaaGreat
open Go
def nW (ops:Array Oper) (j k:Nat):Bool:=
  match ops[j]? with
  |some o=>o.after.any fun e=>Region.binds .any e&&Nat.beq e.on k
  |none=>false
def lr (ops:Array Oper):Nat->List Nat->Bool
  |_,[]=>true
  |j,k::r=>nW ops j k&&lr ops k r
def jH (ops:Array Oper) (fQ:Array Bool):Prop:=∀j k,nW ops j k=true->fQ.getD j false=true->fQ.getD k false=true
theorem xa {ops:Array Oper} {j k:Nat} (h:nW ops j k=true):∃d e,ops[j]? =some d/\e∈d.after/\Region.binds .any e=true/\e.on=k:=by
  unfold nW at h;split at h
  · rename_i d f;obtain⟨e,he,ab⟩:=Array.any_eq_true'.1 h;simp only [Bool.and_eq_true] at ab;exact⟨d,e,f,he,ab.1,Nat.eq_of_beq_eq_true ab.2⟩
  · cases h
theorem z0 {ops:Array Oper} {d:Array Bool} {j k:Nat} (f:j∈Region.ready .any ops d) (h:nW ops j k=true):d.getD k false=true:=by
  obtain⟨A,e,B,he,hb,rfl⟩:=xa h;obtain⟨_,A,C,iq⟩:=mem_ready.1 f;rw [B] at C;cases C;exact iq e he hb
theorem GO {d:Array Bool} {j i:Nat} (h:(d.setIfInBounds i true).getD j false=true):d.getD j false=true\/j=i:=by
  by_cases e:i=j
  · exact .inr e.symm
  · left;rwa [getD_set_ne false e] at h
theorem jH.set {ops:Array Oper} {d:Array Bool} {i:Nat} (h:jH ops d) (hi:i∈Region.ready .any ops d):jH ops (d.setIfInBounds i true):=fun j k he A=>by
  refine getD_set_true ?_;rcases GO A with h1|rfl
  · exact h j k he h1
  · exact z0 hi he
theorem jH.path {ops:Array Oper} {d:Array Bool} (h:jH ops d):∀(l:List Nat) (j i:Nat),lr ops j l=true->(j::l).getLast?=some i->d.getD j false=true->d.getD i false=true
  |
    [],j,i,_,hl,A=>by
    simp at hl;subst hl;exact A
  |k::r,j,i,aY,hl,A=>by
    simp only [lr,Bool.and_eq_true] at aY;rw [List.getLast?_cons_cons] at hl;exact h.path r k i aY.2 hl (h j k aY.1 A)
section
variable {P:Program} {ops:Array Oper} {R:Act->World->Prop} {C:World->Prop} {st:Nat}
abbrev fs (R:Act->World->Prop):Exit->Act->World->Prop:=fun e a w=>e= .normal/\R a w
def a_ (P:Program) (ops:Array Oper) (R:Act->World->Prop) (st:Nat) (C:World->Prop):Nat->Array Bool->Act->World->Prop
  |
    0,fQ,a,w=>Region.ready .any ops fQ=[]/\R a w
  |f+1,fQ,a,w=>(Region.ready .any ops fQ=[]->R a w)/\
    ∀i∈Region.ready .any ops fQ,wpOp P ops (fs R) i (fun kk w'=>((fQ.setIfInBounds i true).getD st false=false->C w')/\a_ P ops R st C f (fQ.setIfInBounds i true) kk w') a w
theorem a_.any:∀(f:Nat) (d:Array Bool) (a:Act) (w:World),a_ P ops R st C f d a w->wpAny P .any ops (fs R) f d a w
  |0,_,_,_,h=>⟨h.1,rfl,h.2⟩
  |f+1,_,_,_,h=>⟨fun A=>⟨rfl,h.1 A⟩,fun i B=>wpOp_mono (fun A D F=>a_.any f _ A D F.2) (h.2 i B)⟩
theorem a_.mono {d:World->Prop} (hc:∀w,d w->C w):∀(f:Nat) (l:Array Bool) (a:Act) (w:World),a_ P ops R st d f l a w->a_ P ops R st C f l a w
  |0,_,_,_,h=>h
  |f+1,_,_,_,h=>⟨h.1,fun i A=>wpOp_mono (fun B D F=>⟨fun G=>hc _ (F.1 G),a_.mono hc f _ B D F.2⟩) (h.2 i A)⟩
theorem a_.first {i:Nat} {d:Oper} {v:Value} (hi:ops[i]? =some d) (l:Region.noSelect ops=true) (o:ops.size<=st\/∃k q,lr ops st (k::q)=true/\(k::q).getLast?=some i):
    ∀
      (f:Nat) (r:Array Bool) (a:Act) (w:World),jH ops r->r.size<=ops.size->
      (∀j t,ops[j]? =some t->j≠i->r.getD j true=false->(∀e∈t.after,Region.binds .any e=true->e.on≠i)->d.apart ops t=true)->
      i∈Region.ready .any ops r->YieldsIf P ops C d v a->C w->
      a_ P ops R st C f (r.setIfInBounds i true) (a.put d.dst v) w->a_ P ops R st C (f+1) r a w:=by
  intro f;have u:∀c a w,fs R (.panic c) (a.put d.dst v) w->fs R (.panic c) a w:=fun _ _ _ h=>(by cases h.1);have l_:∀(r:Array Bool),i∈Region.ready .any ops r->r.getD i false=false:=fun r aU=>by
    have y:=(mem_ready.1 aU).1;rcases Nat.lt_or_ge i r.size with z|z
    · simp [z] at y ⊢;exact y
    · simp [Array.getElem?_eq_none z]
  have A:i<ops.size:=(Array.getElem?_eq_some_iff.1 hi).1;have A:∀(r:Array Bool),jH ops r->i∈Region.ready .any ops r->∀j,j∈Region.ready .any ops r->j≠st:=fun r B aU j D e=>by
    subst e;rcases o with h|⟨k,q,h1,ab⟩
    · obtain⟨_,F,G,_⟩:=mem_ready.1 D;have:=(Array.getElem?_eq_some_iff.1 G).1;omega
    · simp only [lr,Bool.and_eq_true] at h1;have:=B.path q k i h1.2 ab (z0 D h1.1);rw [l_ r aU] at this;cases this
  have F:∀(r:Array Bool),jH ops r->r.size<=ops.size->i∈Region.ready .any ops r->r.getD st false=false:=fun r B G aU=>by
    cases h:r.getD st false with
    |false=>rfl
    |true=>
      rcases o with y|⟨k,q,h1,ab⟩
      · simp [Array.getElem?_eq_none (show r.size<=st by omega)] at h
      · simp only [lr,Bool.and_eq_true] at h1;have:=B.path q k i h1.2 ab (B st k h1.1 h);rw [l_ r aU] at this;cases this
  induction f with
  |zero=>
    intro r a w B G _ aU H I J;refine⟨fun h=>(by rw [h] at aU;cases aU),fun j D=>?_⟩;by_cases K:j=i
    · subst K;exact H.wpOp hi I ⟨fun _=>I,J⟩
    · have:=ready_mono D K;rw [J.1] at this;cases this
  |succ f L=>
    intro r a w B G M aU H I J;refine⟨fun h=>(by rw [h] at aU;cases aU),fun j D=>?_⟩;by_cases K:j=i
    · subst K;exact H.wpOp hi I ⟨fun _=>I,J⟩
    have I:=A r B aU j D;have N:=A r B aU i aU;have h1:=J.2 j (ready_mono D K);obtain⟨A,t,O,iq⟩:=mem_ready.1 D;have J:∀e∈t.after,Region.binds .any e=true->e.on≠i:=fun e he hb Q=>by
      have ab:=iq e he hb;rw [Q,l_ r aU] at ab;cases ab
    have ab:=wpOp_putIf O (M j t O K A J) (fun Q b=>Region.noSelect_spec l i d Q b hi) (fun Q b=>Region.noSelect_spec l j t Q b O) u H h1;have J:∀k T,ops[k]? =some T->k≠i->(r.setIfInBounds j true).getD k true=false->(∀e∈T.after,Region.binds .any e=true->e.on≠i)->d.apart ops T=true:=fun k T hk H hu O=>by
      refine M k T hk H ?_ O;by_cases Q:j=k
      · subst Q;exact A
      · rwa [getD_set_ne true Q] at hu
    refine wpOp_mono (fun A H aq=>?_) ab;obtain⟨bg,M,O⟩:=aq;have Q:=F r B G aU;have T:C H:=M (by rw [getD_set_ne false I,getD_set_ne false N];exact Q);rw [Array.setIfInBounds_comm _ _ (Ne.symm K)] at O;exact⟨fun _=>T,L (r.setIfInBounds j true) A H (B.set D) (by simpa using G) J (ready_mono aU (Ne.symm K)) bg T O⟩
theorem a_.done {d:Array Bool} {a:Act} {w:World} (aU:Region.ready .any ops d=[]) (h:R a w):∀f,a_ P ops R st C f d a w
  |0=>⟨aU,h⟩
  |_+1=>⟨fun _=>h,by rw [aU];simp⟩
theorem a_.many {rs:List Nat} {f:Nat} {d:Array Bool} {a:Act} {w:World} (aU:Region.ready .any ops d=rs) (l:rs.isEmpty=false)
    (h:∀i∈rs,wpOp P ops (fs R) i (fun o q=>((d.setIfInBounds i true).getD st false=false->C q)/\a_ P ops R st C f (d.setIfInBounds i true) o q) a w):a_ P ops R st C (f+1) d a w:=
  ⟨fun A=>(by rw [A] at aU;subst aU;cases l),aU▸h⟩
theorem a_.one {i f:Nat} {d:Array Bool} {a:Act} {w:World} (aU:Region.ready .any ops d=[i])
    (h:wpOp P ops (fs R) i (fun l o=>((d.setIfInBounds i true).getD st false=false->C o)/\a_ P ops R st C f (d.setIfInBounds i true) l o) a w):a_ P ops R st C (f+1) d a w:=
  a_.many aU rfl fun j A=>by
    simp only [List.mem_cons,List.not_mem_nil,or_false] at A;subst A;exact h
theorem a_.last {f:Nat} {l:Array Bool} {a:Act} {w:World} (d:l.getD st false=true) (h:a_ P ops R st C f l a w):(l.getD st false=false->C w)/\a_ P ops R st C f l a w:=
  ⟨fun o=>(by rw [d] at o;cases o),h⟩
def w4 (ops:Array Oper) (fQ:Array Bool):Bool:=
  (List.range ops.size).all fun j=>!fQ.getD j false||(match ops[j]? with|some o=>o.after.all fun e=>!Region.binds .any e||fQ.getD e.on false|none=>true)
theorem D2 {d:Array Bool} (h:w4 ops d=true):jH ops d:=fun j k he A=>by
  obtain⟨B,e,D,F,hb,rfl⟩:=xa he;have B:j<ops.size:=(Array.getElem?_eq_some_iff.1 D).1;have h1:=List.all_eq_true.1 h j (List.mem_range.2 B);rw [A,D] at h1;simp only [Bool.not_true,Bool.false_or] at h1;have ab:=Array.all_eq_true_iff_forall_mem.1 h1 e F;rw [hb] at ab
  simpa using ab
def kV (ops:Array Oper) (st:Nat) (fQ:Array Bool) (i:Nat) (path:List Nat):Bool:=
  Region.noSelect ops&&Region.free .any ops fQ i&&(Region.ready .any ops fQ).contains i&&w4 ops fQ&&Nat.ble fQ.size ops.size&&
    (Nat.ble ops.size st||(match path with|[]=>false|k::l=>lr ops st (k::l)&&(match (k::l).getLast? with|some x=>Nat.beq x i|none=>false)))
end
section
variable {P:Program} {n:Nat} {w0:World} {M:ah} {u:World} {N:ah} {β:Nat->Nat} {σ σ':aX} {a:Act} {w:World} {ops:Array Oper} {R:Act->World->Prop} {C:World->Prop} {st:Nat}
structure cn (w0:World) (M:ah) (u:World) (N:ah) (β:Nat->Nat) (aN:List (List Value)) (w':World):Prop where
  box:∀(k:Nat) (cs:List Value),aN[k]? =some cs->∃T,w'.heap[β k]? =some (.cells cs.toArray T (0,0))
  sep:∀b,N b->b<w'.heap.size/\w'.heap[b]? =u.heap[b]?
  I7:aW M w0 w'
theorem ag.rc (S:ag P n w0 M u N β σ a w):cn w0 M u N β σ.aN w:=⟨S.box,fun b hb=>⟨(S.sep b hb).1,(S.sep b hb).2.1⟩,S.I7⟩
theorem ag.move (S:ag P n w0 M u N β σ a w) {d:World} (h:cn w0 M u N β σ.aN d):ag P n w0 M u N β σ a d:=
  ⟨S.Jt,S.ao,S.env,S.ok,h.box,S.inj,S.new,fun b hb=>⟨(h.sep b hb).1,(h.sep b hb).2,(S.sep b hb).2.2⟩,h.I7,S.fZ⟩
theorem ag.JF (S:ag P n w0 M u N β σ a w) {Q:Exit->Act->World->Prop} {id f:Nat} (st:Nat) (hm:P.follows .mixedOrders=true) (aF:ops.size=f)
    (h:∀d,ag P n w0 M u N β σ a d->a_ P ops (fun a w=>Q .normal a w) st (cn w0 M u N β σ.aN) f (Array.replicate f false) a d):(Code.region id ops true).wp P Q a w:=by
  refine Code.wp_mono (Q:=fs fun a w=>Q .normal a w) (fun e a w A=>A.1▸A.2) (wp_region_any hm ?_);rw [aF];exact a_.any _ _ _ _ (h _ (S.ext (aW.draw I w _)))
theorem a_.next {d:World} {o:ah} {q:List (List Value)} {f:Nat} {l:Array Bool} (z:ag P n w0 M d o β σ' a w) (r:∀b,N b->o b/\d.heap[b]? =u.heap[b]?) (A:σ'.aN=q)
    (h:a_ P ops R st (cn w0 M d o β σ'.aN) f l a w):(l.getD st false=false->cn w0 M u N β q w)/\a_ P ops R st (cn w0 M u N β q) f l a w:=by
  subst A;have y:∀t,cn w0 M d o β σ'.aN t->cn w0 M u N β σ'.aN t:=fun t h=>⟨h.box,fun b hb=>⟨(h.sep b (r b hb).1).1,(h.sep b (r b hb).1).2.trans (r b hb).2⟩,h.I7⟩;exact⟨fun _=>y _ z.rc,a_.mono y _ _ _ _ h⟩
theorem a_.keep {d:World} {o:ah} {q:List (List Value)} {f:Nat} {l:Array Bool} (r:ag P n w0 M d o β σ' a w) (t:∀b,N b->o b/\d.heap[b]? =u.heap[b]?) (y:σ'.aN=q)
    (h:a_ P ops R st (cn w0 M u N β q) f l a w):(l.getD st false=false->cn w0 M u N β q w)/\a_ P ops R st (cn w0 M u N β q) f l a w:=by
  subst y;have A:∀B,cn w0 M d o β σ'.aN B->cn w0 M u N β σ'.aN B:=fun B h=>⟨h.box,fun b hb=>⟨(h.sep b (t b hb).1).1,(h.sep b (t b hb).1).2.trans (t b hb).2⟩,h.I7⟩;exact⟨fun _=>A _ r.rc,h⟩
theorem a_.stay {β':Nat->Nat} {d:List (List Value)} {f:Nat} {l:Array Bool} (o:ag P n w0 M u N β' σ' a w) (q:∀k,k<d.length->β' k=β k) (r:∀(k:Nat) (t:List Value),d[k]? =some t->σ'.aN[k]? =some t)
    (h:a_ P ops R st (cn w0 M u N β' σ'.aN) f l a w):(l.getD st false=false->cn w0 M u N β d w)/\a_ P ops R st (cn w0 M u N β d) f l a w:=by
  have y:∀z,cn w0 M u N β' σ'.aN z->cn w0 M u N β d z:=fun z h=>⟨fun k t hk=>by
      rw [←q k (List.getElem?_eq_some_iff.1 hk).1];exact h.box k t (r k t hk),h.sep,h.I7⟩
  exact⟨fun _=>y _ o.rc,a_.mono y _ _ _ _ h⟩
def eL (n:Nat) (l:List Nat):Array Bool:=l.foldl (fun a i=>a.setIfInBounds i true) (Array.replicate n false)
theorem a_.Ke {f:Nat} {l:Array Bool} (h:∀d:Nat->Array Bool->Act->World->Prop,d=a_ P ops R st C->d f l a w):a_ P ops R st C f l a w:=h _ rfl
theorem a_.J_ {d:Nat->Array Bool->Act->World->Prop} {f:Nat} {l l':Array Bool} (e:l=l') (h:d f l' a w):d f l a w:=e▸h
theorem oC {Q:Exit->Act->World->Prop} {c:Code} (O:Act->World->Prop) (h:c.wp P (fs O) a w) (k:∀a w,O a w->Q .normal a w):c.wp P Q a w:=
  Code.wp_mono (Q:=fs O) (fun _ a w d=>d.1▸k a w d.2) h
theorem px {Q:Exit->Act->World->Prop} {t:Act->World->Prop} {i:Nat} {o:Oper} {claims:List (Ask×Value)} (D:ops[i]? =some o) (d:dD P n ops [o] σ (claims.map (·.2))=some (σ',claims)) (y:cm P u N claims)
    (S:ag P n w0 M u N β σ a w) (K:∀z l β',ag P n w0 M u N β' σ' z l->(∀k,k<σ.aN.length->β' k=β k)->t z l):wpOp P ops Q i t a w:=by
  unfold wpOp;simp only [D];simp only [dD] at d;split at d
  · cases d
  · rename_i aA;rw [gM S aA];simp only [Bool.false_eq_true,if_false];cases aY:σ.put n o.dst (.v undef) with
    |
      none=>rw [aY] at d;cases d
    |some q=>
      rw [aY] at d;simp only [Option.bind_some,Option.some.injEq,Prod.mk.injEq] at d;obtain⟨rfl,_⟩:=d;exact K _ _ _ (S.put aY (fun _ _ e=>by cases e)) (fun _ _=>rfl)
  · rename_i aA;rw [gM S aA];simp only [if_true];left;unfold Oper.wp;split at d
    · cases d
    · rename_i x hx;obtain⟨h1,ab⟩:=gD S hx;rw [h1];simp only [Oper.upon];cases aY:σ.put n o.dst x with
      |
        none=>rw [aY] at d;cases d
      |some q=>
        rw [aY] at d;simp only [Option.bind_some,Option.some.injEq,Prod.mk.injEq] at d;obtain⟨rfl,_⟩:=d;exact K _ _ _ (S.put aY ab) (fun _ _=>rfl)
    · rename_i F hx;have h1:=gD S hx;split at d
      · cases d
      · rename_i v L he;cases aY:σ.put n o.dst (.v v) with
        |
          none=>rw [aY] at d;cases d
        |some q=>
          rw [aY] at d;simp only [Option.bind_some,Option.map_some,Option.some.injEq,Prod.mk.injEq] at d;obtain⟨rfl,G⟩:=d;subst G;have A:=S.put aY (fun _ _ e=>by cases e);cases F with
          |call f args=>
            simp only [nC] at h1;rw [h1,Oper.upon_enter];refine(y.1 w (fun b hb=>⟨(S.sep b hb).1,(S.sep b hb).2.1⟩)).mono fun e l ⟨aq,bg⟩=>?_;subst aq;exact K _ _ _ (A.ext bg) (fun _ _=>rfl)
          |_=>
            have ab:=h1 v (y.1 w (fun b hb=>(S.sep b hb).2.1));rw [ab];exact K _ _ _ A (fun _ _=>rfl)
    · rename_i H r hx;have h1:=gD S hx;rw [h1];simp only [Oper.upon];have I:=S.push r H;cases aY:aX.put n ⟨σ.env,σ.aN++[r]⟩ o.dst (.p σ.aN.length 0) with
      |
        none=>rw [aY] at d;cases d
      |some q=>
        rw [aY] at d;simp only [Option.bind_some,Option.some.injEq,Prod.mk.injEq] at d;obtain⟨rfl,_⟩:=d;have B:=I.put aY (fun k o e=>by cases e;simp);have e:(cy.p σ.aN.length 0).val (fun k=>if k=σ.aN.length then w.heap.size else β k)=aL w.heap.size 0:=by simp [cy.val]
        rw [e] at B;exact K _ _ _ B (fun k hk=>by simp [Nat.ne_of_lt hk])
    · rename_i k r hx;obtain⟨h1,O,ab⟩:=gD S hx;rw [h1];simp only [Oper.upon];split at d
      · rename_i J;rw [J];simp only [Option.some.injEq,Prod.mk.injEq] at d;obtain⟨rfl,_⟩:=d;exact K _ _ _ (S.KH ab) (fun _ _=>rfl)
      · cases d
theorem xm {i:Nat} {d:List Value} {claims:List (Ask×Value)} {keep:List Nat} {m:Nat} (h:gA P n ops i 1 σ d keep m=some (σ',claims)):
    ∃o f,ops[i]? =some o/\dD P n ops [o] σ d=some (f,claims)/\σ'=⟨f.keep m keep,f.aN.take m⟩:=by
  unfold gA at h;cases hb:Nat.ble (i+1) ops.size with
  |false=>rw [hb] at h;cases h
  |true=>
    rw [hb] at h;have A:i+1<=ops.size:=Nat.le_of_ble_eq_true hb;have A:ops[i]? =some ops[i]:=Array.getElem?_eq_getElem V;have B:(ops.toList.drop i).take 1=[ops[i]]:=by
      rw [List.drop_eq_getElem_cons (show i<ops.toList.length by simp;omega)];simp
    simp only [cond_true,B] at h;cases aU:dD P n ops [ops[i]] σ d with
    |none=>rw [aU] at h;cases h
    |some r=>
      rw [aU] at h;simp only [Option.map_some,Option.some.injEq,Prod.mk.injEq] at h;exact⟨_,r.1,A,by rw [aU,←h.2],h.1.symm⟩
theorem ag.J1 (S:ag P n w0 M u N β σ a w) (m:Nat) (keep:List Nat):ag P n w0 M u N β ⟨σ.keep m keep,σ.aN.take m⟩ a w:=
  S.weaken m keep fun d f l h=>by
    have h1:=j2 m keep d _ h;have ab:=S.ok d f l h1.1;have aq:=h1.2 f l rfl;simp;omega
theorem ag.KL {Q:Exit->Act->World->Prop} {d:Act->World->Prop} (S:ag P n w0 M u N β σ a w) {i:Nat} {claims:List (Ask×Value)} {keep:List Nat} {m:Nat} (f:cm P u N claims)
    (l:gA P n ops i 1 σ (claims.map (·.2)) keep m=some (σ',claims)) (K:∀o q β',ag P n w0 M u N β' σ' o q->(∀k,k<σ.aN.length->β' k=β k)->d o q):wpOp P ops Q i d a w:=by
  obtain⟨A,B,D,he,rfl⟩:=xm l;exact px D he f S fun o q β' A B=>K o q β' (A.J1 m keep) B
def km (P:Program) (ops:Array Oper) (σ:aX) (i:Nat):Bool:=
  match ops[i]? with
  |some o=>
    match ht ops σ o with
    |some false=>true
    |some true=>
      match ln P σ o with
      |some (.val _)=>true
      |some (.ask (.call _ _))=>false
      |some (.ask _)=>true
      |_=>false
    |none=>false
  |none=>false
theorem ag.hoist (S:ag P n w0 M u N β σ a w) {i f:Nat} {o:Array Bool} {H:List Nat} {claims:List (Ask×Value)} {keep:List Nat} {m:Nat} (z:kV ops st o i H=true) (l:km P ops σ i=true)
    (I:cm P u N claims) (J:gA P n ops i 1 σ (claims.map (·.2)) keep m=some (σ',claims))
    (K:∀A,ag P n w0 M u N β σ' A w->a_ P ops R st (cn w0 M u N β σ.aN) f (o.setIfInBounds i true) A w):a_ P ops R st (cn w0 M u N β σ.aN) (f+1) o a w:=by
  obtain⟨q,L,t,he,rfl⟩:=xm J;simp only [kV,Bool.and_eq_true,Bool.or_eq_true] at z;obtain⟨⟨⟨⟨⟨O,Q⟩,T⟩,U⟩,W⟩,X⟩:=z;have aY:ops.size<=st\/∃k r,lr ops st (k::r)=true/\(k::r).getLast?=some i:=by
    rcases X with h|h
    · exact .inl (Nat.le_of_ble_eq_true h)
    · right;split at h
      · cases h
      · rename_i k r;simp only [Bool.and_eq_true] at h;obtain⟨h1,ab⟩:=h;split at ab
        · rename_i x hx;exact⟨k,r,h1,by rw [hx,Nat.eq_of_beq_eq_true ab]⟩
        · cases ab
  have y:∀v,YieldsIf P ops (cn w0 M u N β σ.aN) q v a->ag P n w0 M u N β L (a.put q.dst v) w->a_ P ops R st (cn w0 M u N β σ.aN) (f+1) o a w:=fun v Y ad=>
    a_.first t O aY f o a w (D2 U) (Nat.le_of_ble_eq_true W) (Region.free_spec t Q) (by simpa using T) Y S.rc (K _ (ad.J1 m keep))
  unfold km at l;rw [t] at l;simp only [dD] at he;split at he
  · cases he
  · rename_i aA;cases d:σ.put n q.dst (.v undef) with
    |
      none=>rw [d] at he;cases he
    |some B=>
      rw [d] at he;simp only [Option.bind_some,Option.some.injEq,Prod.mk.injEq] at he;obtain⟨rfl,_⟩:=he;exact y undef (.inr ⟨gM S aA,rfl⟩) (S.put d (fun _ _ e=>by cases e))
  · rename_i aA;simp only [aA] at l;have D:=gM S aA;split at he
    · cases he
    · rename_i x hx;cases d:σ.put n q.dst x with
      |
        none=>rw [d] at he;cases he
      |some B=>
        rw [d] at he;simp only [Option.bind_some,Option.some.injEq,Prod.mk.injEq] at he;obtain⟨rfl,_⟩:=he;exact y (x.val β) (.inl ⟨D,fun F h=>(gD (S.move h) hx).1⟩) (S.put d (gD S hx).2)
    · rename_i ae hx;split at he
      · cases he
      · rename_i v ak hc;cases d:σ.put n q.dst (.v v) with
        |
          none=>rw [d] at he;cases he
        |some B=>
          rw [d] at he;simp only [Option.bind_some,Option.map_some,Option.some.injEq,Prod.mk.injEq] at he;obtain⟨rfl,af⟩:=he;subst af;refine y v (.inl ⟨D,fun F h=>?_⟩) (S.put d (fun _ _ e=>by cases e));have G:=S.move h;have h1:=gD G hx;cases ae with
          |call g args=>simp only [hx] at l;cases l
          |_=>exact h1 v (I.1 F (fun b hb=>(G.sep b hb).2.1))
    · rename_i al aj hx;simp only [hx] at l;cases l
    · rename_i k aj hx;simp only [hx] at l;cases l
end
end Go.Proofs.YtkggcdhigchepaaGreat
