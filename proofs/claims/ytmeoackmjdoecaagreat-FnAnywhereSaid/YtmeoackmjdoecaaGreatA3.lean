/- append to a list of numbers that lies in an element of an owned list. No program is named here. -/
import Derived.Test.YtmeoackmjdoecaaGreatA2
import Derived.Test.YtmeoackmjdoecaaGreatA1
import Derived.Test.YtmeoackmjdoecaaGreatBits
import Derived.Test.YtmeoackmjdoecaaGreatProg
import Derived.KernelRfl
namespace Go.Proofs.YtmeoackmjdoecaaGreat
open Go
set_option linter.unusedVariables false
def One (p:jo):aw:=fun b=>p.nil=false/\b=p.b
theorem one_sub {K:Nat} {F:aw} {w:World} {xs:List Int} {p:af Int} (h:GT.own K F w xs p):∀b,One p.1 b->F b:=fun b ⟨z,e⟩=>e▸((show jU K F w xs p from h).row z).1
theorem aiH {K:Nat} {F:aw} {w:World} {xs:List Int} {p:af Int} (h:GT.own K F w xs p):GT.own K (One p.1) w xs p:=by
  have h:jU K F w xs p:=h
  obtain⟨G,cW,_,_⟩:=h.el
  exact(⟨h.le,h.cap,h.o4,h.null,fun z=>⟨⟨z,rfl⟩,(h.row z).2⟩,h.cell,fun _=>aa,fun i hi=>(cW i hi:aq _),fun _ _ _ hb=>False.elim hb,fun _ _ _ _ _ _ hb=>False.elim hb⟩:jU K (One p.1) w xs p)
theorem aiG {K:Nat} {N b1:aw} {u w':World} {xs aU:List Int} {p r:af Int} (h:GT.own K (One p.1) u xs p) (hN:∀b,One p.1 b->N b) (h':GT.own K b1 w' (xs++aU) r) (e:r.1=p.1\/∀b,N b->w'.heap[b]? =u.heap[b]?):GT.own K (One p.1) w' xs p:=by
  rcases e with e|e
  · have h:jU K (One p.1) u xs p:=h
    have h':jU K b1 w' (xs++aU) r:=h'
    obtain⟨G,cW,_,_⟩:=h.el
    refine(⟨h.le,h.cap,h.o4,h.null,fun z=>⟨⟨z,rfl⟩,?_⟩,fun i hi=>?_,fun _=>aa,fun i hi=>(cW i hi:aq _),fun _ _ _ hb=>False.elim hb,fun _ _ _ _ _ _ hb=>False.elim hb⟩:jU K (One p.1) w' xs p)
    · have:=(h'.row (by rw [e];exact z)).2
      rw [e] at this
      exact this
    · have h1:=h'.cell i (by rw [List.length_append];omega)
      rw [e] at h1
      rw [show el (xs++aU) i=el xs i from by unfold el;simp only [List.getD_eq_getElem?_getD,List.getElem?_append_left hi]] at h1
      exact h1
  · exact GT.c7 h fun b hb _=>e b (hN b hb)
section
variable {P:Program} {n:Nat} {w0:World} {M:aw} {u:World} {N:aw} {β:Nat->Nat} {a:Act} {w:World} {Q:Exit->Act->World->Prop}
theorem Ti {K:Nat} {G Fy:aw} {c8:World} {x:aZ} {p:g6} {l:List Int} {q:af Int} (h:GT.own K G u x p) (hl:GT.own K Fy c8 l q) (cu:∀b,G b->N b) (hu:∀b,N b->¬One p.outs.1 b->c8.heap[b]? =u.heap[b]?) (vH:∀H:aw,J H (One p.outs.1)->(∀b,H b->N b)->J H Fy):
    ∃hT,GT.own K hT c8 ({x with outs:=l}:aZ) {p with outs:=q}/\∀b,hT b->G b\/(Fy b/\¬N b):=by
  obtain⟨du,dr,dN,ev,gX,hH,gC,cW,bM,c3,ej,gb,s,f0,f1,f2⟩:=h
  have bD:=one_sub ej
  have d0:J du gX:=ea s.dJ (i:=0) (j:=4) (by decide) rfl rfl
  have d1:J dr gX:=ea s.dJ (i:=1) (j:=4) (by decide) rfl rfl
  have d2:J dN gX:=ea s.dJ (i:=2) (j:=4) (by decide) rfl rfl
  have d3:J ev gX:=ea s.dJ (i:=3) (j:=4) (by decide) rfl rfl
  have d5:J hH gX:=(ea s.dJ (i:=4) (j:=5) (by decide) rfl rfl).symm
  have gw:=s.sub du (by simp)
  have s1:=s.sub dr (by simp)
  have s2:=s.sub dN (by simp)
  have ja:=s.sub ev (by simp)
  have BD:=s.sub gX (by simp)
  have yR:=s.sub hH (by simp)
  have jN:∀H:aw,J H gX->(∀b,H b->G b)->J H Fy/\∀b,H b->c8.heap[b]? =u.heap[b]? :=fun H OX UJ=>
    ⟨vH H (fun b hb h1=>OX b hb (bD b h1)) (fun b hb=>cu b (UJ b hb)),fun b hb=>hu b (cu b (UJ b hb)) fun h1=>OX b hb (bD b h1)⟩
  obtain⟨p0,Cb⟩:=jN du d0 gw
  obtain⟨bA,e4⟩:=jN dr d1 s1
  obtain⟨bt,dO⟩:=jN dN d2 s2
  obtain⟨fm,g8⟩:=jN ev d3 ja
  obtain⟨O4,zj⟩:=jN hH d5 yR
  have ac2:∀b,Fy b->G b\/(Fy b/\¬N b):=fun b hb=>by
    by_cases hN:N b
    · refine .inl (BD b (bD b ?_))
      refine Classical.byContradiction fun bc=>vH (fun c=>c=b) (fun c hc h1=>bc (hc▸h1)) (fun c hc=>hc▸hN) b rfl hb
    · exact .inr ⟨hb,hN⟩
  refine⟨fun b=>G b\/Fy b,⟨du,dr,dN,ev,Fy,hH,GT.c7 gC fun b hb _=>Cb b hb,GT.c7 cW fun b hb _=>e4 b hb,GT.c7 bM fun b hb _=>dO b hb,GT.c7 c3 fun b hb _=>g8 b hb,hl,GT.c7 gb fun b hb _=>zj b hb,⟨fun H dP b hb=>?_,?_⟩,f0,f1,f2⟩,fun b hb=>hb.elim .inl (ac2 b)⟩
  · simp only [List.mem_cons,List.not_mem_nil,or_false] at dP
    rcases dP with rfl|rfl|rfl|rfl|rfl|rfl
    · exact .inl (gw b hb)
    · exact .inl (s1 b hb)
    · exact .inl (s2 b hb)
    · exact .inl (ja b hb)
    · exact .inr hb
    · exact .inl (yR b hb)
  · have:=s.dJ
    simp only [List.pairwise_cons,List.mem_cons,List.not_mem_nil,or_false,forall_eq_or_imp,forall_eq,false_imp_iff,implies_true,and_true,List.Pairwise.nil] at this ⊢
    obtain⟨⟨cb,lU,kR,asm,Fk⟩,⟨alZ,al0,aso,al1⟩,⟨al3,asr,al4⟩,⟨v4,alK⟩,t5⟩:=this
    exact⟨⟨cb,lU,kR,p0,Fk⟩,⟨alZ,al0,bA,al1⟩,⟨al3,bt,al4⟩,⟨fm,alK⟩,O4.symm⟩
theorem aj.WW {σ:bw} {ops:Array Oper} {cS:Act->World->Prop} {i:Nat} (S:aj P n w0 M u N β σ a w) {xs:List aZ} {p:af aZ} {F:aw} (o:ai w0 M u N F xs p) {aU:List Int} {q:af Int} (k:Nat) (hy:o1 u N aU q) {by' lx ly:Nat} {d:Tmp} (hk:k<xs.length) (hl:(el xs k).outs.length+aU.length<=bz)
    (K:∀aD w' aH r Fy,aj P n w0 M w' aH β ⟨(d,.v (ab ((el xs k).outs++aU).length r.1))::σ.env,σ.ay⟩ aD w'->(∀b,N b->¬F b->aH b/\w'.heap[b]? =u.heap[b]?)->ai w0 M w' aH F xs p->o1 w' aH ((el xs k).outs++aU) r->
      (∀G,GT.own bz G w' (el xs k) (p.2 k)->(∀b,G b->F b)->∃hT,GT.own bz hT w' ({el xs k with outs:=(el xs k).outs++aU}:aZ) {p.2 k with outs:=r}/\∀b,hT b->G b\/Fy b)->(∀G:aw,(∀b,G b->N b)->J G Fy)->(∀b,Fy b->aH b)->(∀b,Fy b->w0.heap.size<=b\/M b)->
      cS aD w')
    (hlx:lx=(el xs k).outs.length:=by rfl) (hly:ly=aU.length:=by rfl) (hop:r0 P n ops i σ=some (ab lx (p.2 k).outs.1,ab ly q.1,1,by',d):=by kernel_rfl):wpOp P ops Q i cS a w:=by
  subst hlx hly
  have bD:jU bz F u xs p:=o.own
  obtain⟨G,cW,bM,c3⟩:=bD.el
  have ph:p.1.nil=false:=bD.A0 (Nat.lt_of_lt_of_le (Nat.lt_of_le_of_lt (Nat.zero_le _) hk) bD.cap)
  obtain⟨xW,kt⟩:=bD.row ph
  have PO:=cW k hk
  have ab_:=PO
  obtain⟨du,dr,dN,ev,gX,hH,_,_,_,_,ej,_,s,_,_,_⟩:=ab_
  have h1:∀b,One (p.2 k).outs.1 b->G k b:=fun b hb=>s.sub gX (by simp) b (one_sub ej b hb)
  have HD:∀b,One (p.2 k).outs.1 b->F b:=fun b hb=>(bM k hk b (h1 b hb)).1
  have uI:ai w0 M u N (One (p.2 k).outs.1) (el xs k).outs (p.2 k).outs:=⟨aiH ej,fun b hb=>o.sub b (HD b hb),fun b hb=>o.cU b (HD b hb)⟩
  refine aj.append S uI hy (Fy:=aa) ⟨fun _=>aa,fun i hi=>(ag.el hy i hi:aq _),fun _ _ b h=>False.elim h,fun _ _ _ _ _ b h=>False.elim h⟩ (fun b _ h=>False.elim h) (fun b h=>False.elim h) (fun b h=>False.elim h) hop hl fun aD w' aH r b1 ah aE b2 cf dU=>?_
  obtain⟨adT,_,he⟩:=dU
  have aeC:=aiG uI.own uI.sub b2.own he
  have Jw:∀b,N b->¬One (p.2 k).outs.1 b->w'.heap[b]? =u.heap[b]? :=fun b hb bc=>(aE b hb bc).2
  have vH:∀H:aw,J H (One (p.2 k).outs.1)->(∀b,H b->N b)->J H b1:=fun H d1 d2=>cf H d1 (fun b _ h=>False.elim h) d2
  have Ij:∀b,One (p.2 k).outs.1 b->b≠p.1.b:=fun b hb=>(bM k hk b (h1 b hb)).2
  have cu:∀i,i<xs.length->∀b,G i b->N b:=fun i hi b hb=>o.sub b (bM i hi b hb).1
  have hold:ai w0 M w' aH F xs p:=by
    refine⟨?_,fun b hb=>adT b (o.sub b hb),o.cU⟩
    have bR:w'.heap[p.1.b]? =u.heap[p.1.b]? :=Jw _ (o.sub _ xW) fun hb=>Ij _ hb rfl
    refine(⟨bD.le,bD.cap,bD.o4,bD.null,fun z=>?_,fun i hi=>(bD.cell i hi).qU bR,fun i=>if i=k then(fun b=>G k b\/(One (p.2 k).outs.1 b/\¬N b)) else G i,fun i hi=>?_,fun i hi b hb=>?_,fun i j hi bJ gD=>?_⟩:jU bz F w' xs p)
    · obtain⟨h1,cs,T,ah,aE⟩:=bD.row z
      exact⟨h1,cs,T,bR.trans ah,aE⟩
    · by_cases e:i=k
      · subst e
        simp only [if_true]
        obtain⟨hT,bA,bt⟩:=Ti (x:=el xs i) (p:=p.2 i) PO aeC (cu i hk) Jw (fun H d1 _=>d1)
        exact GT.fC bA (Nat.le_refl _) bt
      · simp only [e,if_false]
        exact GT.c7 (cW i hi) fun b hb _=>Jw b (cu i hi b hb) fun et=>c3 i k hi hk e b hb (h1 b et)
    · by_cases e:i=k
      · subst e
        simp only [if_true] at hb
        rcases hb with hb|hb
        · exact bM i hi b hb
        · exact absurd (uI.sub b hb.1) hb.2
      · simp only [e,if_false] at hb
        exact bM i hi b hb
    · intro b hb et
      have fix:∀i,i<xs.length->(if i=k then(fun b=>G k b\/(One (p.2 k).outs.1 b/\¬N b)) else G i) b->G i b:=fun i hi hb=>by
        by_cases e:i=k
        · subst e
          simp only [if_true] at hb
          exact hb.elim id fun hb=>absurd (uI.sub b hb.1) hb.2
        · simp only [e,if_false] at hb
          exact hb
      exact c3 i j hi bJ gD b (fix i hi hb) (fix j bJ et)
  refine K aD w' aH r (fun b=>b1 b/\¬N b) (by rw [List.length_append];exact ah) (fun b hb bc=>aE b hb fun h=>bc (HD b h)) hold b2.al (fun H dP hs=>?_) (fun H hs b hb h=>h.2 (hs b hb)) (fun b hb=>b2.sub b hb.1) (fun b hb=>b2.cU b hb.1)
  exact Ti (u:=w') dP b2.own (fun b hb=>o.sub b (hs b hb)) (fun _ _ _=>rfl) vH
def FQ {α:Type} [GT α] (F:aw) (p:af α) (w:World) (wR:List α) (e:Ending) (w':World):Prop:=
  ∃(cp:Nat->GT.Ptr α) (b1:aw),e= .returned (packed [])/\bX F w w'/\GT.own bz b1 w' wR ((p.1,cp):af α)/\(∀b,b1 b->F b\/(w.heap.size<=b/\b<w'.heap.size))
theorem aj.Wr {α:Type} [GT α] {bh:c_} {F:aw} {xs wR:List α} {p:af α} (S:aj P n w0 M u N β bh.σ a w) (o:ai w0 M u N F xs p) {f:FuncId} {dX:List Value} {d:Tmp} (hc:Calls P f dX.toArray w (FQ F p w wR))
    (K:∀dO w' aH cp b1,aj P n w0 M w' aH β (bh.put d (packed [])).σ dO w'->(∀b,N b->¬F b->aH b/\w'.heap[b]? =u.heap[b]?)->ai w0 M w' aH b1 wR ((p.1,cp):af α)->(∀G:aw,J G F->(∀b,G b->N b)->J G b1)->dD P Q (bh.put d (packed [])) dO w')
    (hcall:jr P n bh.ca.opsOf bh.ca.idx bh.σ=some (f,dX,d):=by kernel_rfl) (hd:Nat.blt d n=true:=by kernel_rfl) (bU:bh.ca.ka=true:=by kernel_rfl):dD P Q bh a w:=
  ⟨b9 (S.call hcall hc fun _ w' ⟨cp,b1,he,ez,bD,bm⟩=>⟨_,he,(K _ w' _ cp b1 ((S.qT ez o.sub o.cU).put (wb hd) (fun _ _ e=>by cases e)) (S.bp ez)
    ⟨bD,fun b h=>(bm b h).elim (fun h=> .inl (o.sub b h)) .inr,fun b h=>(bm b h).elim (o.cU b) (fun h=> .inl (Nat.le_trans S.ed.size h.1))⟩
    (fun G cW bM b h1 ah=>(bm b ah).elim (cW b h1) (fun h=>by have:=(S.sep b (bM b h1)).1;omega))).ok⟩) bU⟩
theorem LV {α:Type} [GT α] {σ:bw} {F b1:aw} {wR x:List α} {p:af α} {cp:Nat->GT.Ptr α} (S:aj P n w0 F u N β σ a w) (h:wR=x) (o:ai w0 F u N b1 x ((p.1,cp):af α)):FQ F p w0 wR (.returned (packed [])) w:=by
  subst h
  exact⟨cp,b1,rfl,S.ed,GT.c7 o.own (fun b hb _=>(S.sep b (o.sub b hb)).2.1),fun b hb=>(o.cU b hb).elim (fun h=> .inr ⟨h,(S.sep b (o.sub b hb)).1⟩) .inl⟩
end
end Go.Proofs.YtmeoackmjdoecaaGreat
namespace Go.Proofs.YtmeoackmjdoecaaGreat
open Go
set_option linter.unusedVariables false
theorem UP {xs:List aZ} {k:Nat} (hk:k<xs.length):xs.set k ({el xs k with owned:=(el xs k).owned}:aZ)=xs:=by
  show xs.set k (el xs k)=xs
  rw [hJ hk,List.set_getElem_self]
theorem aiR {o i k:Int} (h:mM o i k=1):kn i k=true:=by
  unfold mM at h
  split at h
  · assumption
  · split at h<;>omega
theorem TR {o i k:Int} (h:¬mM o i k=1):kn i k=false:=by
  unfold mM at h
  split at h
  · exact absurd rfl h
  · rename_i h1;simpa using h1
variable {m:aZ} {y:az} {want:Int}
theorem aiN (hw:want=5\/want=7) (h:mM m.bQ y.bH.bQ (lF want)=2) (ah:m.owned<1000000000):o7 m y want=m.owned+1:=by
  unfold o7;rw [if_pos ⟨⟨by omega,h⟩,ah⟩]
theorem Lm (h:¬mM m.bQ y.bH.bQ (lF want)=2\/¬m.owned<1000000000):o7 m y want=m.owned:=by
  unfold o7;rw [if_neg (fun h1=>h.elim (fun h=>h h1.1.2) (fun h=>h h1.2))]
theorem alG (hw:want=5\/want=7) (h:kn y.bH.bQ (lF want)=true):jt y y.bH.bQ want=(oq y want,false):=by
  rcases hw with e|e<;>subst e
  · have h:kn y.bH.bQ 1=true:=h
    unfold jt oq;rw [if_neg (by decide),if_pos ⟨rfl,h⟩,if_pos rfl]
  · have h:kn y.bH.bQ 2=true:=h
    unfold jt oq;rw [if_neg (by decide),if_neg (by rintro⟨h,-⟩;exact absurd h (by decide)),if_pos ⟨rfl,h⟩,if_neg (by decide)]
theorem U7 (hw:want=5\/want=7) (h:kn y.bH.bQ (lF want)=false):jt y y.bH.bQ want=(if want=7 then iN y else cj y,true):=by
  rcases hw with e|e<;>subst e
  · have h:kn y.bH.bQ 1=false:=h
    unfold jt;rw [if_neg (by decide),if_neg (by rw [h];simp),if_neg (by rintro⟨h,-⟩;exact absurd h (by decide)),if_neg (by decide),if_neg (by decide)]
  · have h:kn y.bH.bQ 2=false:=h
    unfold jt;rw [if_neg (by decide),if_neg (by rintro⟨h,-⟩;exact absurd h (by decide)),if_neg (by rw [h];simp),if_pos rfl,if_pos rfl]
theorem agd {xs:List aZ} {k:Nat} {g:Int} (hw:want=5\/want=7) (h:mM m.bQ y.bH.bQ (lF want)=1):xs.set k (kG m g y want)=xs.set k ({m with U:=m.U.set g.toNat (oq y want)}:aZ):=by
  unfold kG vx
  rw [alG hw (aiR h),Lm (.inl (by omega)),if_neg (fun h=>by have:=h.1.1;cases this)]
theorem agb {xs X:List aZ} {k:Nat} {g fp:Int} (jw:X=xs.set k ({el xs k with owned:=fp}:aZ)) (he:el X k=({el xs k with owned:=fp}:aZ)) (bD:fp=o7 (el xs k) y want) (h:¬mM (el xs k).bQ y.bH.bQ (lF want)=1) (hw:want=7):
    xs.set k (kG (el xs k) g y want)=X.set k ({el X k with U:=(el X k).U.set g.toNat (iN y)}:aZ):=by
  rw [he,jw,List.set_set]
  unfold kG vx
  rw [U7 (.inr hw) (TR h),←bD,if_pos hw,if_neg (fun h=>by have:=h.1.2;omega)]
theorem agc {xs X:List aZ} {k:Nat} {g fp:Int} {os:List Int} (jw:X=xs.set k ({el xs k with owned:=fp,outs:=os}:aZ)) (he:el X k=({el xs k with owned:=fp,outs:=os}:aZ)) (bD:fp=o7 (el xs k) y want) (h:¬mM (el xs k).bQ y.bH.bQ (lF want)=1) (hw:want=5)
    (Ji:os=if(el xs k).outs.length<40 then(el xs k).outs++[(dk y.prog y.aN).x] else(el xs k).outs):
    xs.set k (kG (el xs k) g y want)=X.set k ({el X k with U:=(el X k).U.set g.toNat (cj y)}:aZ):=by
  rw [he,jw,List.set_set]
  unfold kG vx
  rw [U7 (.inl hw) (TR h),←bD,if_neg (by omega)]
  have e:(if((true=true/\want=5)/\(el xs k).outs.length<40) then(el xs k).outs++[(dk y.prog y.aN).x] else(el xs k).outs)=os:=by
    rw [Ji]
    by_cases h:(el xs k).outs.length<40
    · rw [if_pos h,if_pos ⟨⟨rfl,hw⟩,h⟩]
    · rw [if_neg h,if_neg (fun h1=>h h1.2)]
  simp only at e ⊢
  rw [e]
theorem ES {w0 u:World} {M N F:aw} {X xs:List aZ} {qq:jo} {i_:Nat->g6} {k g:Nat} {pI:g6} (o:ai w0 M u N F X ((qq,i_):af aZ)) (he:(el X k).U=(el xs k).U) (a2:(i_ k).U=pI.U) (hk:k<X.length) (aJ:g<(el xs k).U.length):
    GT.rd bz N u (el (el xs k).U g) (pI.U.2 g):=by
  have h1:GT.rd bz N u (el X k).U (i_ k).U:=bn.U (d:=el X k) (ag.el o.al k hk)
  rw [he,a2] at h1
  exact ag.el h1 g aJ
section
variable {h:ad} {m g:Int}
theorem DH (e:dg h=false):ix h m g=(h,false):=vY (.inl (by unfold nf;rw [e];rfl))
theorem alQ {x a b:Int} (e:¬(a<=x/\x<=b)):aS x a b=false:=by
  cases h:aS x a b with
  |false=>rfl
  |true=>exact absurd (cM h) e
theorem DI (e:(aC h m).2=false):ix h m g=(h,false):=by
  have h1:=KF e
  refine vY (.inl ?_)
  unfold nf
  rw [alQ (fun ah=>h1 (by omega)),Bool.and_false,Bool.false_and]
theorem DJ (bt:(aC h m).2=true) (e:aS g 0 (((aC h m).1.U.length:Int)-1)=false):ix h m g=(h,false):=by
  rw [uw (ry bt)] at e
  refine vY (.inl ?_)
  unfold nf
  rw [e,Bool.and_false]
theorem DK (bt:(aC h m).2=true) (e:b6 (el (aC h m).1.U g.toNat)=0):ix h m g=(h,false):=by
  rw [uw (ry bt)] at e
  exact vY (.inr e)
theorem DL (bA:dg h=true) (bt:(aC h m).2=true) (fm:aS g 0 (((aC h m).1.U.length:Int)-1)=true):nf h m g=true:=by
  have h1:=ry bt
  rw [uw h1] at fm
  unfold nf
  rw [bA,fm,show aS m 0 ((h.I.length:Int)-1)=true from by unfold aS;simp;omega]
  rfl
theorem yg (bA:dg h=true) (bt:(aC h m).2=true) (fm:aS g 0 (((aC h m).1.U.length:Int)-1)=true) (vu:¬b6 (el (aC h m).1.U g.toNat)=0):
    ix h m g=(r_ h m g (el (aC h m).1.U g.toNat) (b6 (el (aC h m).1.U g.toNat)),true):=by
  have h1:=DL bA bt fm
  rw [uw (ry bt)] at vu ⊢
  exact RK h1 vu
theorem R1 (bA:dg h=true) (bt:(aC h m).2=true) (fm:aS g 0 (((aC h m).1.U.length:Int)-1)=true) (hw:b6 (el (aC h m).1.U g.toNat)=5\/b6 (el (aC h m).1.U g.toNat)=7):
    ix h m g=(⟨h.mem,h.I.set m.toNat (kG (el h.I m.toNat) g (el (el h.I m.toNat).U g.toNat) (b6 (el (aC h m).1.U g.toNat))),h.buf,h.ar⟩,true):=by
  rw [yg bA bt fm (by omega),RM (by omega) (by omega) (by omega) (by omega)]
  rw [uw (ry bt)]
  rfl
theorem E0 (hm:0<=m/\m<h.I.length):(aG h m).U=(el h.I m.toNat).U:=by unfold aG;rw [if_pos hm]
theorem R0 (bA:dg h=true) (bt:(aC h m).2=true) (fm:aS g 0 (((aC h m).1.U.length:Int)-1)=true) (hw:b6 (el (aC h m).1.U g.toNat)=1\/b6 (el (aC h m).1.U g.toNat)=2\/b6 (el (aC h m).1.U g.toNat)=6):
    ix h m g=(⟨h.mem,h.I.set m.toNat ({el h.I m.toNat with U:=(ig (aG h m) g).1.U}:aZ),h.buf,h.ar⟩,true):=by
  have hm:=ry bt
  have aJ:=(BO (DL bA bt fm)).2.2
  rw [yg bA bt fm (by omega)]
  rw [uw hm] at hw ⊢
  have aaI:ig (aG h m) g=(mD (aG h m) g (el (el h.I m.toNat).U g.toNat) (b6 (el (el h.I m.toNat).U g.toNat)),true):=by
    unfold ig
    rw [E0 hm,if_pos ⟨BJ bA hm,aJ,by omega⟩]
  rw [aaI]
  rcases hw with hw|hw|hw
  · rw [aeX hw,Ch hw,E0 hm];rfl
  · rw [aeY hw,Ci hw,E0 hm];rfl
  · rw [RM (by omega) (by omega) (by omega) (by omega),Ey hw,E0 hm]
    unfold zS kG jt vx o7
    rw [if_pos hw,if_neg (fun h=>by omega),if_neg (fun h=>h.1.1 hw)]
end
end Go.Proofs.YtmeoackmjdoecaaGreat
namespace Go.Proofs.YtmeoackmjdoecaaGreat
open Go
set_option linter.unusedVariables false
section
variable {P:Program} {n:Nat} {w0:World} {M:aw} {u:World} {N:aw} {β:Nat->Nat} {σ:bw} {a:Act} {w:World} {ops:Array Oper} {cS:Act->World->Prop} {Q:Exit->Act->World->Prop}
def zz (P:Program) (n:Nat) (ops:Array Oper) (i:Nat) (σ:bw):Option (Value×Value×Nat×Tmp):=
  match ops.toList[i]? with
  |some o=>
    match nh ops σ o,o.op,o.dst with
    |some true,.call ⟨.builtin .copy,args,jW⟩,some d=>
      match args.toList,jW.toList with
      |[x,y],[t1,t2]=>
        match P.underlying t1,σ.get x,σ.get y with
        |some (.slice e),some (.v s),some (.v r)=>
          match jl P e with
          |some z=>bif Nat.blt d n then some (s,r,z,d) else none
          |none=>none
        |_,_,_=>none
      |_,_=>none
    |_,_,_=>none
  |none=>none
theorem aa8 (s n a b:Nat) (p:jo):Builtin.firstCells s n (ab a p)=Builtin.firstCells s n (ab b p):=by
  unfold ab
  cases p.addr<;>rfl
theorem akF {t1 t2 e ty:TypeId} {W k ld ls:Nat} {pd q:jo} {cells:List Value} {w':World} (h1:P.underlying t1=some (.slice e)) (hs:jl P e=some W) (hk:k=Nat.min ls ld)
    (bm:(Builtin.firstCells W k (ab ls q)).run P w= .ok cells.toArray w) (iY:(match pd.addr with|some a=>storeCells a cells|none=>pure ()).run P w= .ok () w'):
    (Builtin.copy_ #[t1,t2] ty #[ab ld pd,ab ls q]).run P w= .ok (R k) w':=by
  subst hk
  unfold ab at bm ⊢
  cases bR:pd.addr with
  |none=>
    rw [bR] at iY
    simp only [Sem.run_pure] at iY
    injection iY with _ hw
    subst hw
    simp only [Builtin.copy_,List.getElem?_toArray,List.getElem?_cons_zero,List.getElem?_cons_succ,Sem.run_bind,run_underlying h1,Result.andThen_ok,Builtin.lenOf,Sem.run_pure,uW hs,bm]
    rfl
  |some qR=>
    rw [bR] at iY
    simp only at iY
    simp only [Builtin.copy_,List.getElem?_toArray,List.getElem?_cons_zero,List.getElem?_cons_succ,Sem.run_bind,run_underlying h1,Result.andThen_ok,Builtin.lenOf,Sem.run_pure,uW hs,bm,iY]
    rfl
theorem O7 {α:Type} [GT α] {xs aU:List α} {a k i:Nat} (h1:a+k<=xs.length) (ah:k<=aU.length):el (xs.take a++aU.take k++xs.drop (a+k)) i=if i<a then el xs i else if i<a+k then el aU (i-a) else el xs i:=by
  unfold el
  simp only [List.getD_eq_getElem?_getD]
  congr 1
  have SP:(xs.take a).length=a:=by simp;omega
  have l2:(aU.take k).length=k:=by simp;omega
  by_cases jY:i<a
  · rw [if_pos jY,List.append_assoc,List.getElem?_append_left (by omega),List.getElem?_take_of_lt jY]
  · rw [if_neg jY]
    by_cases m4:i<a+k
    · rw [if_pos m4,List.append_assoc,List.getElem?_append_right (by omega),SP,List.getElem?_append_left (by omega),List.getElem?_take_of_lt (by omega)]
    · rw [if_neg m4,List.append_assoc,List.getElem?_append_right (by omega),SP,List.getElem?_append_right (by omega),l2,List.getElem?_drop,show a+k+(i-a-k)=i by omega]
theorem vj {α:Type} {xs aU:List α} {a k:Nat} (h1:a+k<=xs.length) (ah:k<=aU.length):(xs.take a++aU.take k++xs.drop (a+k)).length=xs.length:=by
  simp;omega
theorem aj.copy {α:Type} [GT α] {xs aU:List α} {p q:af α} {F:aw} (S:aj P n w0 M u N β σ a w) (hx:ai w0 M u N F xs p) (hy:o1 u N aU q)
    (hfl:∀(x:α) (r:GT.Ptr α) (B:aw) (v lr:World),GT.rd bz B v x r->GT.own bz aa lr x r) {i aD k:Nat} {d:Tmp} (bR:aD<=xs.length) (hk:k=Nat.min aU.length (xs.length-aD))
    (hop:zz P n ops i σ=some (ab (xs.length-aD) (p.1.b8 aD (GT.width α)),ab aU.length q.1,GT.width α,d))
    (K:∀dO w' aH cp,aj P n w0 M w' aH β ⟨(d,.v (R k))::σ.env,σ.ay⟩ dO w'->(∀b,N b->¬F b->aH b/\w'.heap[b]? =u.heap[b]?)->ai w0 M w' aH F (xs.take aD++aU.take k++xs.drop (aD+k)) ((p.1,cp):af α)->cS dO w'):wpOp P ops Q i cS a w:=by
  have Dw:k=min aU.length (xs.length-aD):=hk
  have x9:aD+k<=xs.length:=by omega
  have kI:k<=aU.length:=by omega
  unfold zz at hop
  split at hop
  · rename_i o bD
    have j9:ops[i]? =some o:=by simpa using bD
    split at hop
    · rename_i args jW m7 aJ ss IX
      split at hop
      · rename_i x y t1 t2 ox ad6
        split at hop
        · rename_i e s r Jv Js Jt
          split at hop
          · rename_i z fB
            cases lj:Nat.blt m7 n with
            |false=>rw [lj] at hop;cases hop
            |true=>
              rw [lj] at hop
              simp only [cond_true,Option.some.injEq,Prod.mk.injEq] at hop
              obtain⟨rfl,rfl,ho,rfl⟩:=hop
              have bA:args=#[x,y]:=by rw [←Array.toList_inj];exact ox
              have GW:jW=#[t1,t2]:=by rw [←Array.toList_inj];exact ad6
              subst bA GW ho
              have j_:jU bz F u xs p:=hx.own
              have hyr:ag bz N u aU q:=hy
              have ud:∀b,N b->w.heap[b]? =u.heap[b]? :=fun b hb=>(S.sep b hb).2.1
              have R_:ag bz N u xs p:=hx.al
              --alN is read
              have R4:(aU.take k).length=k:=by simp;omega
              have GZ:∀j,j<k->el (aU.take k) j=el aU j:=fun j bJ=>by unfold el;rw [List.getD_eq_getElem?_getD,List.getD_eq_getElem?_getD,List.getElem?_take_of_lt bJ]
              have JE:∀j,j<(aU.take k).length->k6 w q.1.b (q.1.off+j*GT.width α) (GT.cells (el (aU.take k) j) (q.2 j)):=fun j bJ=>by
                rw [R4] at bJ
                rw [GZ j bJ]
                exact(hyr.cell j (by omega)).qU (ud _ (hyr.at_ (by omega)).2)
              have yj:q.1.nil=true->(aU.take k).length=0:=fun h=>by
                rcases Nat.eq_zero_or_pos aU.length with h0|h0
                · omega
                · have:=(hyr.at_ h0).1;rw [h] at this;cases this
              have bm:=Bs (P:=P) JE yj (GT.width α) rfl
              rw [R4,aa8 _ _ k aU.length] at bm
              have Rk:=q8 (aU.take k) q.2 k
              --alN a step aoF
              have step:∀(w':World),(match (p.1.b8 aD (GT.width α)).addr with|some a=>storeCells a (fA (aU.take k) q.2 k)|none=>pure ()).run P w= .ok () w'->cS (a.put (some m7) (R k)) w'->wpOp P ops Q i cS a w:=fun w' iY x8=>by
                refine va.step j9 (ma S aJ) ?_
                have hex:(execOp a.eval o).run P w= .ok (.value (R k)) w':=by
                  unfold execOp
                  simp only [ss]
                  simp only [resolve,List.map_toArray,List.map_cons,List.map_nil,S.get Js,S.get Jt]
                  show(do let v ←Builtin.copy_ #[t1,t2] o.type #[ab (xs.length-aD) (p.1.b8 aD (GT.width α)),ab aU.length q.1];pure (Next.value v):Sem Next).run P w=_
                  rw [Sem.run_bind,akF Jv fB hk bm iY]
                  rfl
                unfold Oper.wp
                rw [hex]
                simp only [Oper.upon,IX]
                exact x8
              --the elements
              have aed:∀(w':World) (j:Nat),j<xs.length->GT.own bz aa w' (el (xs.take aD++aU.take k++xs.drop (aD+k)) j) (if j<aD then p.2 j else if j<aD+k then q.2 (j-aD) else p.2 j):=fun w' j bJ=>by
                rw [O7 x9 kI]
                by_cases jY:j<aD
                · rw [if_pos jY,if_pos jY];exact hfl _ _ _ _ _ (R_.el j bJ)
                · rw [if_neg jY,if_neg jY]
                  by_cases m4:j<aD+k
                  · rw [if_pos m4,if_pos m4];exact hfl _ _ _ _ _ (hyr.el (j-aD) (by omega))
                  · rw [if_neg m4,if_neg m4];exact hfl _ _ _ _ _ (R_.el j bJ)
              have ks:∀(w':World),∃G:Nat->aw,(∀j,j<(xs.take aD++aU.take k++xs.drop (aD+k)).length->GT.own bz (G j) w' (el (xs.take aD++aU.take k++xs.drop (aD+k)) j) (if j<aD then p.2 j else if j<aD+k then q.2 (j-aD) else p.2 j))/\(∀j,j<(xs.take aD++aU.take k++xs.drop (aD+k)).length->∀b,G j b->F b/\b≠p.1.b)/\(∀j JP,j<(xs.take aD++aU.take k++xs.drop (aD+k)).length->JP<(xs.take aD++aU.take k++xs.drop (aD+k)).length->j≠JP->J (G j) (G JP)):=fun w'=>
                ⟨fun _=>aa,fun j bJ=>aed w' j (by rwa [vj x9 kI] at bJ),fun _ _ _ h=>False.elim h,fun _ _ _ _ _ _ h=>False.elim h⟩
              let EH:Nat->GT.Ptr α:=fun j=>if j<aD then p.2 j else if j<aD+k then q.2 (j-aD) else p.2 j
              by_cases Rq:k=0
              · --nothing is copied
                have JG:fA (aU.take k) q.2 k=[]:=by rw [Rq];rfl
                have JH:xs.take aD++aU.take k++xs.drop (aD+k)=xs:=by rw [Rq];simp
                refine step w ?_ (K _ w _ p.2 ((S.qT (bX.refl F w) hx.sub hx.cU).put (wb lj) (fun _ _ e=>by cases e)) (S.bp (bX.refl F w)) ?_)
                · rw [JG]
                  cases (p.1.b8 aD (GT.width α)).addr<;>rfl
                · rw [JH]
                  exact⟨GT.c7 hx.own (fun b hb _=>ud b (hx.sub b hb)),fun b hb=> .inl (hx.sub b hb),hx.cU⟩
              · have vP:=j_.cap
                have ph:p.1.nil=false:=j_.A0 (by omega)
                obtain⟨eb,cs,T,kt,afh⟩:=j_.row ph
                obtain⟨fs,v7,_⟩:=S.sep _ (hx.sub _ eb)
                have AI:w.heap[p.1.b]? =some (.cells cs T (0,0)):=v7.trans kt
                have hmul:(aD+k)*GT.width α<=p.1.cap*GT.width α:=Nat.mul_le_mul_right _ (by omega)
                rw [Nat.add_mul] at hmul
                have sy:(p.1.b8 aD (GT.width α)).addr=some ⟨p.1.b,p.1.off+aD*GT.width α,none⟩:=by
                  unfold jo.b8 jo.addr
                  have bA:(p.1.cap==aD)=false:=by simp;omega
                  simp only [ph,bA,cond_false]
                have hle:p.1.off+aD*GT.width α+(fA (aU.take k) q.2 k).length<=cs.size:=by rw [Rk];omega
                have iY:=run_storeCells_at (P:=P) p.1.b (p.1.off+aD*GT.width α) T (fA (aU.take k) q.2 k) 0 cs w AI (by simpa using hle) (Ps _ _ _)
                simp only [Nat.add_zero] at iY
                generalize afk:fA (aU.take k) q.2 k=dx at iY hle Rk step
                generalize hoff:p.1.off+aD*GT.width α=off at iY hle sy
                have qi:=setRow_heap w p.1.b cs (cs.toList.take off++dx++cs.toList.drop (off+dx.length)).toArray T (0,0) AI
                have ua:∀b,b≠p.1.b->(w.setRow p.1.b (cs.toList.take off++dx++cs.toList.drop (off+dx.length)).toArray).heap[b]? =w.heap[b]? :=fun b hb=>by
                  simp only [World.setRow,Array.getElem?_modify]
                  rw [if_neg (fun e=>hb e.symm)]
                have yh:(w.setRow p.1.b (cs.toList.take off++dx++cs.toList.drop (off+dx.length)).toArray).heap.size=w.heap.size:=by simp [World.setRow]
                generalize oD:w.setRow p.1.b (cs.toList.take off++dx++cs.toList.drop (off+dx.length)).toArray=w' at*
                have ez:bX F w w':=by
                  subst oD
                  exact⟨rfl,rfl,rfl,by rw [yh];exact Nat.le_refl _,fun b _ bc=>ua b (fun e=>bc (e▸eb))⟩
                have k2:∀pos,w'.cell? ⟨p.1.b,pos,none⟩=if pos<off then cs[pos]? else if pos<off+dx.length then dx[pos-off]? else cs[pos]? :=fun pos=>by
                  simp only [World.cell?,qi,Option.isSome_none,Bool.false_eq_true,if_false]
                  have:=E6 cs.toList dx off pos (by simpa using hle)
                  simpa using this
                have hold:∀pos x,u.cell? ⟨p.1.b,pos,none⟩=some x->cs[pos]? =some x:=fun pos x h=>by
                  simpa [World.cell?,kt] using h
                refine step w' (by rw [sy];exact iY) (K _ w' _ EH ((S.qT ez hx.sub hx.cU).put (wb lj) (fun _ _ e=>by cases e)) (S.bp ez) ⟨?_,fun b hb=> .inl (hx.sub b hb),hx.cU⟩)
                refine⟨by rw [vj x9 kI];exact j_.le,by rw [vj x9 kI];exact j_.cap,j_.o4,j_.null,fun _=>⟨eb,_,T,qi,?_⟩,fun j bJ=>?_,ks w'⟩
                · have:(cs.toList.take off++dx++cs.toList.drop (off+dx.length)).toArray.size=cs.size:=by simp at hle ⊢;omega
                  rw [this];exact afh
                · rw [vj x9 kI] at bJ
                  intro z x uf
                  rw [O7 x9 kI] at uf
                  have apg:(j+1)*GT.width α<=p.1.cap*GT.width α:=Nat.mul_le_mul_right _ (by omega)
                  have JG:z<GT.width α:=by
                    have:=(List.getElem?_eq_some_iff.1 uf).1
                    rwa [GT.len] at this
                  show w'.cell? ⟨p.1.b,p.1.off+j*GT.width α+z,none⟩=some x
                  rw [k2]
                  by_cases jY:j<aD
                  · simp only [jY,if_true,EH] at uf
                    have aez:(j+1)*GT.width α<=aD*GT.width α:=Nat.mul_le_mul_right _ jY
                    rw [Nat.add_mul,Nat.one_mul] at aez
                    rw [if_pos (by omega)]
                    exact hold _ _ (j_.cell j bJ z x uf)
                  · have apc:aD*GT.width α<=j*GT.width α:=Nat.mul_le_mul_right _ (by omega)
                    by_cases m4:j<aD+k
                    · simp only [jY,m4,if_true,if_false,EH] at uf
                      have oz:(j-aD+1)*GT.width α<=k*GT.width α:=Nat.mul_le_mul_right _ (by omega)
                      rw [Nat.add_mul,Nat.one_mul,Nat.sub_mul] at oz
                      rw [if_neg (by omega),if_pos (by omega)]
                      have aJ:=xK (aU.take k) q.2 k (j-aD) z (by omega) JG
                      rw [afk,GZ _ (by omega),uf] at aJ
                      rw [←aJ]
                      congr 1
                      rw [Nat.sub_mul]
                      omega
                    · simp only [jY,m4,if_false,EH] at uf
                      have oz:(aD+k)*GT.width α<=j*GT.width α:=Nat.mul_le_mul_right _ (by omega)
                      rw [Nat.add_mul] at oz
                      rw [if_neg (by omega),if_neg (by omega)]
                      exact hold _ _ (j_.cell j bJ z x uf)
          · cases hop
        · cases hop
      · cases hop
    · cases hop
  · cases hop
theorem aj.OF {α:Type} [GT α] {xs aU:List α} {p q:af α} {F:aw} (S:aj P n w0 M u N β σ a w) (hx:ai w0 M u N F xs p) (hy:o1 u N aU q)
    (hfl:∀(x:α) (r:GT.Ptr α) (B:aw) (v lr:World),GT.rd bz B v x r->GT.own bz aa lr x r) {i:Nat} {d:Tmp} (aD ld ls:Nat) (bR:aD<=xs.length) (hld:ld=xs.length-aD) (hls:ls=aU.length)
    (hop:zz P n ops i σ=some (ab ld (p.1.b8 aD (GT.width α)),ab ls q.1,GT.width α,d))
    (K:∀dO w' aH cp,aj P n w0 M w' aH β ⟨(d,.v (R ((min ls ld:Nat):Int)))::σ.env,σ.ay⟩ dO w'->(∀b,N b->¬F b->aH b/\w'.heap[b]? =u.heap[b]?)->ai w0 M w' aH F (xs.take aD++aU.take (min ls ld)++xs.drop (aD+min ls ld)) ((p.1,cp):af α)->cS dO w'):wpOp P ops Q i cS a w:=by
  subst hld hls
  exact S.copy hx hy hfl bR rfl hop K
theorem aj.Zp {α:Type} [GT α] {xs aU:List α} {p q:af α} {F:aw} (S:aj P n w0 M u N β σ a w) (hx:ai w0 M u N F xs p) (hy:o1 u N aU q)
    (hfl:∀(x:α) (r:GT.Ptr α) (B:aw) (v lr:World),GT.rd bz B v x r->GT.own bz aa lr x r) {i:Nat} {d:Tmp} (ld ls:Nat) (hld:ld=xs.length) (hls:ls=aU.length)
    (hop:zz P n ops i σ=some (ab ld p.1,ab ls q.1,GT.width α,d))
    (K:∀dO w' aH cp,aj P n w0 M w' aH β ⟨(d,.v (R ((min ls ld:Nat):Int)))::σ.env,σ.ay⟩ dO w'->(∀b,N b->¬F b->aH b/\w'.heap[b]? =u.heap[b]?)->ai w0 M w' aH F (xs.take 0++aU.take (min ls ld)++xs.drop (0+min ls ld)) ((p.1,cp):af α)->cS dO w'):wpOp P ops Q i cS a w:=
  S.OF hx hy hfl 0 ld ls (Nat.zero_le _) hld hls (by rw [jo.ak8];exact hop) K
def h4 (x y:Int):Int:=IntKind.u64.wrap (x+y)
def e1 (x y:Int):Int:=IntKind.u64.wrap (x*y)
def dM (x y:Int):Int:=IntKind.u64.wrap ((BitVec.ofInt 64 x&&& BitVec.ofInt 64 y).toNat)
def dT (x y:Int):Int:=x.fdiv (2 ^ (min y.toNat 64))
theorem B9 {x y:Int}:fw P u N (.int .add .u64 x y) (.int .u64 (h4 x y)):=fun _ _=>rfl
theorem zc {x y:Int}:fw P u N (.int .mul .u64 x y) (.int .u64 (e1 x y)):=fun _ _=>rfl
theorem FP {x y:Int}:fw P u N (.int .and .u64 x y) (.int .u64 (dM x y)):=fun _ _=>rfl
theorem zd {yk:IntKind} {x y:Int} (h:0<=y):fw P u N (.hG (Op.shift .shr .u64 x yk y)) (.int .u64 (dT x y)):=fun w _=>by
  show(Op.shift .shr .u64 x yk y).run P w=_
  unfold Op.shift
  rw [if_neg (by omega)];rfl
theorem WA {s d:TypeId} {qE:TypeDesc} {x:Int} (hs:P.underlying s=some qE) (hd:P.underlying d=some (.int .i64)) (h0:0<=x) (h1:x<=9223372036854775807):fw P u N (.hG (Go.convert s d (.int .u64 x))) (R x):=fun w _=>by
  show(Go.convert s d (.int .u64 x)).run P w=_
  unfold Go.convert
  simp only [Sem.run_bind,run_underlying hs,run_underlying hd,Result.andThen_ok]
  have e:IntKind.i64.wrap x=x:=u2 ⟨by omega,by omega⟩
  unfold Conv.intToInt
  rw [e]
  cases qE<;>rfl
theorem agH {y:Int} (h0:0<=y) (h1:y<=24):h4 (h4 (e1 (dT 1 32) (dT y 32)) (dT (h4 (e1 (dT 1 32) (dM y 4294967295)) (dT (e1 (dM 1 4294967295) (dM y 4294967295)) 32)) 32)) (dT (h4 (dM (h4 (e1 (dT 1 32) (dM y 4294967295)) (dT (e1 (dM 1 4294967295) (dM y 4294967295)) 32)) 4294967295) (e1 (dM 1 4294967295) (dT y 32))) 32)=0:=by
  have key:∀y:Fin 25,h4 (h4 (e1 (dT 1 32) (dT ((y.val:Nat):Int) 32)) (dT (h4 (e1 (dT 1 32) (dM ((y.val:Nat):Int) 4294967295)) (dT (e1 (dM 1 4294967295) (dM ((y.val:Nat):Int) 4294967295)) 32)) 32)) (dT (h4 (dM (h4 (e1 (dT 1 32) (dM ((y.val:Nat):Int) 4294967295)) (dT (e1 (dM 1 4294967295) (dM ((y.val:Nat):Int) 4294967295)) 32)) 4294967295) (e1 (dM 1 4294967295) (dT ((y.val:Nat):Int) 32))) 32)=0:=by decide+kernel
  have h:=key ⟨y.toNat,by omega⟩
  simp only [Int.toNat_of_nonneg h0] at h
  exact h
theorem agI {y:Int} (h0:0<=y) (h1:y<=24):e1 1 y=y:=by
  have key:∀y:Fin 25,e1 1 ((y.val:Nat):Int)=((y.val:Nat):Int):=by decide+kernel
  have h:=key ⟨y.toNat,by omega⟩
  simp only [Int.toNat_of_nonneg h0] at h
  exact h
end
end Go.Proofs.YtmeoackmjdoecaaGreat
namespace Go.Proofs.YtmeoackmjdoecaaGreat
open Go
set_option linter.unusedVariables false
section
variable {P:Program} {n:Nat} {w0:World} {M:aw} {u:World} {N:aw} {β:Nat->Nat} {a:Act} {w:World} {Q:Exit->Act->World->Prop}
theorem aj.Vi {bh:c_} {α:Type} [GT α] {xs aU:List α} {p q:af α} {F:aw} {d:Tmp} (S:aj P n w0 M u N β bh.σ a w) (hx:ai w0 M u N F xs p) (hy:o1 u N aU q) (hfl:∀(x:α) (r:GT.Ptr α) (B:aw) (v lr:World),GT.rd bz B v x r->GT.own bz aa lr x r) (ld ls:Nat) (hld:ld=xs.length) (hls:ls=aU.length) (K:∀dO w' aH cp,aj P n w0 M w' aH β (bh.put d (R ((min ls ld:Nat):Int))).σ dO w'->(∀b,N b->¬F b->aH b/\w'.heap[b]? =u.heap[b]?)->ai w0 M w' aH F (xs.take 0++aU.take (min ls ld)++xs.drop (0+min ls ld)) ((p.1,cp):af α)->dD P Q (bh.put d (R ((min ls ld:Nat):Int))) dO w') (hop:zz P n bh.ca.opsOf bh.ca.idx bh.σ=some (ab ld p.1,ab ls q.1,GT.width α,d):=by kernel_rfl) (bU:bh.ca.ka=true:=by kernel_rfl):dD P Q bh a w:=
  ⟨b9 (aj.Zp S (hx:=hx) (hy:=hy) (hfl:=hfl) (ld:=ld) (ls:=ls) (hld:=hld) (hls:=hls) (hop:=hop) (K:=fun _ _ _ _ h0 h1 ah=>(K _ _ _ _ h0 h1 ah).ok)) bU⟩
end
end Go.Proofs.YtmeoackmjdoecaaGreat
namespace Go.Proofs.YtmeoackmjdoecaaGreat
open Go
set_option linter.unusedVariables false
theorem aks {x acc:List aA} {n:Nat} (hx:x.length=1) (bc:n=min x.length acc.length):(acc.take 0++x.take n++acc.drop (0+n)).take n=List.replicate n (el x 0):=by
  have hm:=bc
  rw [List.take_zero,List.nil_append,List.take_append_of_le_length (by simp;omega),List.take_take,Nat.min_self]
  match x,hx with
  |[y],_=>
    have e:n=0\/n=1:=by simp at hm;omega
    rcases e with e|e<;>subst e<;>rfl
theorem akt {acc:List aA} {s:aA} {n k:Nat} (hk:n+k<=acc.length) (aeD:k<=n) (h:acc.take n=List.replicate n s):(acc.take n++(acc.take n).take k++acc.drop (n+k)).take (n+k)=List.replicate (n+k) s:=by
  rw [List.take_append_of_le_length (by simp;omega),h,List.take_of_length_le (by simp;omega),List.take_replicate,List.replicate_append_replicate,Nat.min_eq_left aeD]
theorem akr {acc:List aA} {s:aA} {n c:Nat} (hl:acc.length=c) (bc:c<=n) (ap8:n<=c) (h:acc.take n=List.replicate n s):acc=List.replicate c s:=by
  rw [List.take_of_length_le (by omega)] at h
  rw [h,show n=c by omega]
def aoi (n:Nat):List aA:=List.replicate n ⟨-1,0⟩
def q5 (n:Int):bO:=⟨List.replicate (b5 n 0 24).toNat false,List.replicate (b5 n 0 24).toNat ⟨-1,0⟩⟩
def o6 (p:List cE):az:=⟨p,0,0,List.replicate 4 ⟨-1,0⟩,List.replicate 4 ⟨-1,0⟩,⟨0,0,false⟩,0,⟨0,0,false,0⟩,false,[]⟩
def l7 (dz:List (List cE)):aZ:=⟨List.replicate 8 ⟨-1,0⟩,List.replicate 8 (List.replicate 4 0),List.replicate 8 false,(dz.take 2).map o6,[],0,0,(dz.take 2).map (fun _=>q5 4),0⟩
def j2 (all:List (List (List cE))):ad:=⟨List.replicate 12 (List.replicate 4 0),(all.take 3).map l7,[],[]⟩
theorem yx {α β:Type} [GT α] {f:α->β} {xs:List α} {k m:Nat} (hk:k<xs.length) (hm:k<m):((xs.take m).take (k+1)).map f=((xs.take m).take k).map f++[f (el xs k)]:=by
  rw [List.take_take,List.take_take,Nat.min_eq_left (by omega),Nat.min_eq_left (by omega),iH hk,List.map_append]
  rfl
theorem Ky {α β:Type} {f:α->β} {xs:List α} {k m:Nat} (hk:xs.length<=k\/m<=k):((xs.take m).take k).map f=(xs.take m).map f:=by
  rw [List.take_of_length_le (by simp;omega)]
end Go.Proofs.YtmeoackmjdoecaaGreat
namespace Go.Proofs.YtmeoackmjdoecaaGreat
open Go
set_option linter.unusedVariables false
section
variable {P:Program} {n:Nat} {w0:World} {M:aw} {u:World} {N:aw} {β:Nat->Nat} {a:Act} {w:World} {Q:Exit->Act->World->Prop}
theorem aj.Xk {σ:bw} {ops:Array Oper} {cS:Act->World->Prop} (S:aj P n w0 M u N β σ a w) {α:Type} [GT α] (xs:List α) (rI:GT.Ptr α) {i:Nat} {d:Tmp} (hfl:∀x,x∈xs->∀w',GT.own bz aa w' x rI) (hl:xs.length<=bz)
    (K:∀aD w' aH r F,aj P n w0 M w' aH β ⟨(d,.v (ab xs.length r.1))::σ.env,σ.ay⟩ aD w'->(∀b,N b->aH b/\w'.heap[b]? =u.heap[b]?)->ai w0 M w' aH F xs r->J N F->cS aD w')
    (hop:tl P n ops i σ=some (fA xs (fun _=>rI) xs.length,xs.length,d):=by kernel_rfl):wpOp P ops Q i cS a w:=by
  refine S.cF hop fun aD w' T bT up kt ho=>?_
  have adS:xs.length<=9223372036854775807:=Nat.le_trans hl (by unfold bz;decide)
  refine K aD w' _ ((⟨false,w.heap.size,0,xs.length,none⟩,fun _=>rI):af α) (ky w.heap.size w'.heap.size) bT up ⟨?_,fun b h=> .inr h,fun b h=> .inl (Nat.le_trans S.ed.size h.1)⟩ (fun b h1 ah=>J.fresh S w' (fun _ h=>h) b h1 ah)
  refine(⟨hl,Nat.le_refl _,adS,fun h=>(by cases h),fun _=>⟨⟨Nat.le_refl _,(by show w.heap.size<w'.heap.size;omega)⟩,_,T,kt,by simp [q8]⟩,fun i hi=>?_,fun _=>aa,fun i hi=>?_,fun i hi b hb=>False.elim hb,fun i j hi bJ gD b hb=>False.elim hb⟩:jU bz (ky w.heap.size w'.heap.size) w' xs ((⟨false,w.heap.size,0,xs.length,none⟩,fun _=>rI):af α))
  · intro j v bJ
    have qh:j<GT.width α:=by
      have:=(List.getElem?_eq_some_iff.1 bJ).1
      rwa [GT.len] at this
    simp only [World.cell?,kt,Option.isSome_none,Bool.false_eq_true,if_false,Nat.zero_add]
    rw [List.getElem?_toArray,xK xs (fun _=>rI) xs.length i j hi qh]
    exact bJ
  · exact hfl _ (by unfold el;rw [List.getD_eq_getElem?_getD,List.getElem?_eq_getElem hi];exact List.getElem_mem hi) w'
theorem aj.qH {bh:c_} (S:aj P n w0 M u N β bh.σ a w) {α:Type} [GT α] (xs:List α) (rI:GT.Ptr α) {d:Tmp} (hfl:∀x,x∈xs->∀w',GT.own bz aa w' x rI) (hl:xs.length<=bz)
    (K:∀aD w' aH r F,aj P n w0 M w' aH β (bh.put d (ab xs.length r.1)).σ aD w'->(∀b,N b->aH b/\w'.heap[b]? =u.heap[b]?)->ai w0 M w' aH F xs r->J N F->dD P Q (bh.put d (ab xs.length r.1)) aD w')
    (hop:tl P n bh.ca.opsOf bh.ca.idx bh.σ=some (fA xs (fun _=>rI) xs.length,xs.length,d):=by kernel_rfl) (bU:bh.ca.ka=true:=by kernel_rfl):dD P Q bh a w:=
  ⟨b9 (aj.Xk S xs rI hfl hl (fun aD w' aH r F h1 ah aE b2=>(K aD w' aH r F h1 ah aE b2).ok) hop) bU⟩
end
structure d_ where
  v:Int
instance:GT d_ where
  Ptr:=Unit
  dE:=⟨0⟩
  bL:=()
  width:=1
  agg:=false
  cells x _:=[.int .u8 x.v]
  rd _ _ _ x _:=0<=x.v/\x.v<=255
  own _ _ _ x _:=0<=x.v/\x.v<=255
  jG:=Nat.one_pos
  len _ _:=rfl
  one _:=rfl
  plain _ _ v h:=by simp at h;subst h;rfl
  eh h _ _:=h
  fJ h _:=h
  gH h:=h
  fC h _ _:=h
  c7 h _:=h
  gU h:=h
  fb h:=h
  gu _ _ _:=⟨by decide,by decide⟩
theorem Zs {F:aw} {w:World} {c:List d_} {p:af d_} (h:GT.rd u_ F w c p) (hl:c.length<=1048576):GT.rd bz F w c p:=
  (⟨Nat.le_trans hl (by unfold bz;decide),ag.cap h,ag.at_ h,ag.cell h,fun i hi=>ag.el h i hi⟩:ag bz F w c p)
structure eW where
  n:Nat
  p:jo
  i:Int
  h:Int
instance:GT eW where
  Ptr:=Unit
  dE:=⟨0,⟨true,0,0,0,none⟩,0,0⟩
  bL:=()
  width:=3
  agg:=true
  cells x _:=[ab x.n x.p,R x.i,R x.h]
  rd _ _ _ x _:=aq x.i/\aq x.h
  own _ _ _ x _:=aq x.i/\aq x.h
  jG:=by decide
  len _ _:=rfl
  one h:=by cases h
  plain _ _ v h:=by simp only [List.mem_cons,List.not_mem_nil,or_false] at h;rcases h with rfl|rfl|rfl<;>rfl
  eh h _ _:=h
  fJ h _:=h
  gH h:=h
  fC h _ _:=h
  c7 h _:=h
  gU h:=h
  fb h:=h
  gu _ _ _:=⟨⟨by decide,by decide⟩,by decide,by decide⟩
theorem aiI {P:Program} {t:TypeId} (bC:P.underlying t=some (.int .u8)) (hc:P.cellsOf t=1):w2 P t d_:=by
  refine⟨hc,fun H enc w fuel cs x h=>?_⟩
  cases fuel with
  |zero=>simp [DataW.trod] at h
  |succ n=>
    unfold DataW.trod at h
    rw [bC] at h
    split at h<;>simp_all
    rename_i k kb n' hk
    subst hk
    obtain⟨⟨rfl,hw⟩,_⟩:=h
    exact⟨⟨n'⟩,(),rfl,bounds_u8 hw⟩
end Go.Proofs.YtmeoackmjdoecaaGreat
namespace Go.Proofs.YtmeoackmjdoecaaGreat
open Go
set_option linter.unusedVariables false
structure jm (c:List d_) (aN:af d_) (G F:aw) (w:World) (q:af eW):Prop where
  rd:GT.rd bz G w c aN
  ap:∀b,G b->b<w.heap.size/\¬F b
  ex:∃i h:Int,(0<=i/\i<=c.length)/\aq h/\GT.own bz F w [(⟨c.length,aN.1,i,h⟩:eW)] q
  lt:∀b,F b->b<w.heap.size
structure iJ (c:List d_) (aN:af d_) (G:aw) (w0:World) (M:aw) (u:World) (N F:aw) (q:af eW):Prop where
  rd:GT.rd bz G w0 c aN
  ap:∀b,G b->b<w0.heap.size/\¬M b
  ex:∃i h:Int,(0<=i/\i<=c.length)/\aq h/\ai w0 M u N F [(⟨c.length,aN.1,i,h⟩:eW)] q
section
variable {P:Program} {n:Nat} {w0:World} {M:aw} {u:World} {N:aw} {β:Nat->Nat} {σ:bw} {a:Act} {w:World} {ops:Array Oper} {Q:Exit->Act->World->Prop} {cS:Act->World->Prop} {c:List d_} {aN:af d_} {G F:aw} {q:af eW}
theorem iJ.sub (o:iJ c aN G w0 M u N F q):∀b,F b->N b:=let⟨_,_,_,_,h⟩:=o.ex;h.sub
theorem iJ.cU (o:iJ c aN G w0 M u N F q):∀b,F b->w0.heap.size<=b\/M b:=let⟨_,_,_,_,h⟩:=o.ex;h.cU
theorem iJ.up {w':World} {aH:aw} (o:iJ c aN G w0 M u N F q) (g:∀b,N b->aH b/\w'.heap[b]? =u.heap[b]?):iJ c aN G w0 M w' aH F q:=
  let⟨i,h,h1,ah,aE⟩:=o.ex;⟨o.rd,o.ap,i,h,h1,ah,aE.up g⟩
theorem iJ.bp {w':World} {aH jV:aw} (o:iJ c aN G w0 M u N F q) (hd:J F jV) (g:∀b,N b->¬jV b->aH b/\w'.heap[b]? =u.heap[b]?):iJ c aN G w0 M w' aH F q:=
  let⟨i,h,h1,ah,aE⟩:=o.ex;⟨o.rd,o.ap,i,h,h1,ah,aE.bp hd g⟩
theorem aj.dL (S:aj P n w0 M u N β σ a w) (o:iJ c aN G w0 M u N F q):jm c aN G F w q:=
  let⟨i,h,h1,ah,aE⟩:=o.ex
  ⟨GT.fJ o.rd fun b hb _=>S.ed.block b (o.ap b hb).1 (o.ap b hb).2,
   fun b hb=>⟨Nat.lt_of_lt_of_le (o.ap b hb).1 S.ed.size,fun bm=>(aE.cU b bm).elim (fun h1=>Nat.not_lt_of_le h1 (o.ap b hb).1) (o.ap b hb).2⟩,
   ⟨i,h,h1,ah,S.hP aE⟩,fun b hb=>(S.sep b (aE.sub b hb)).1⟩
theorem jm.aF (h:jm c aN G F w0 q):iJ c aN G w0 F w0 (ga w0.heap.size) F q:=
  let⟨i,h',h1,ah,aE⟩:=h.ex
  ⟨h.rd,h.ap,i,h',h1,ah,aE,h.lt,fun b hb=> .inr hb⟩
theorem ai.mono {α:Type} [GT α] {F b1:aw} {x:α} {p:GT.Ptr α} (o:ai w0 M u N b1 x p) (h1:∀b,b1 b->F b) (ah:∀b,F b->N b) (aE:∀b,F b->w0.heap.size<=b\/M b):ai w0 M u N F x p:=
  ⟨GT.fC o.own (Nat.le_refl _) h1,ah,aE⟩
theorem jm.mono {b1:aw} (h:jm c aN G b1 w q) (h1:∀b,b1 b->F b) (ah:∀b,F b->b<w.heap.size) (aE:∀b,G b->¬F b):jm c aN G F w q:=
  let⟨i,h',bA,bt,fm⟩:=h.ex
  ⟨h.rd,fun b hb=>⟨(h.ap b hb).1,aE b hb⟩,⟨i,h',bA,bt,GT.fC fm (Nat.le_refl _) h1⟩,ah⟩
def lZ {α:Type} [GT α] (c:List d_) (aN:af d_) (G F:aw) (q:af eW) (w:World) (fO:α->Prop) (e:Ending) (w':World):Prop:=
  ∃(r:α) (p:GT.Ptr α) (F1:aw),e= .returned (GT.val r p)/\fO r/\bX F w w'/\GT.own bz F1 w' r p/\(∀b,F1 b->w.heap.size<=b/\b<w'.heap.size)/\jm c aN G F w' q
theorem aj.Zc {α:Type} [GT α] {fO:α->Prop} (S:aj P n w0 M u N β σ a w) (o:iJ c aN G w0 M u N F q) {i:Nat} {f:FuncId} {dX:List Value} {d:Tmp} (hc:Calls P f dX.toArray w (lZ c aN G F q w fO))
    (K:∀aD w' aH r p F1,aj P n w0 M w' aH β ⟨(d,.v (GT.val r p))::σ.env,σ.ay⟩ aD w'->fO r->(∀b,N b->¬F b->aH b/\w'.heap[b]? =u.heap[b]?)->ai w0 M w' aH F1 r p->J N F1->iJ c aN G w0 M w' aH F q->cS aD w')
    (hcall:jr P n ops i σ=some (f,dX,d):=by kernel_rfl) (hd:Nat.blt d n=true:=by kernel_rfl):wpOp P ops Q i cS a w:=
  S.call hcall hc fun _ w' ⟨r,p,F1,he,oE,ez,AB,qf,hc⟩=>⟨_,he,K _ w' _ r p F1 ((S.qT ez o.sub o.cU).put (wb hd) (fun _ _ e=>by cases e)) oE (S.bp ez) ⟨AB,fun _ h=> .inr (qf _ h),fun _ h=> .inl (Nat.le_trans S.ed.size (qf _ h).1)⟩ (J.fresh S w' qf) ⟨o.rd,o.ap,let⟨i,h,h1,ah,aE⟩:=hc.ex;⟨i,h,h1,ah,aE,fun _ hb=> .inl (o.sub _ hb),o.cU⟩⟩⟩
theorem fY {α:Type} [GT α] {fO:α->Prop} {x:α} {p:GT.Ptr α} {v0:Value} {F1:aw} (S:aj P n w0 F u N β σ a w) (oE:fO x) (AH:v0=GT.val x p) (cL:ai w0 F u N F1 x p) (d0:J F1 F) (aF:iJ c aN G w0 F u N F q):lZ c aN G F q w0 fO (.returned (packed [v0])) w:=by
  subst AH
  exact⟨x,p,F1,rfl,oE,S.ed,S.hP cL,fun b hb=>⟨(cL.cU b hb).resolve_right (fun h=>d0 b hb h),(S.sep b (cL.sub b hb)).1⟩,S.dL aF⟩
def B_ {α:Type} [GT α] (w:World) (fO:α->Prop) (e:Ending) (w':World):Prop:=
  ∃(r:α) (p:GT.Ptr α) (F1:aw),e= .returned (GT.val r p)/\fO r/\bX aa w w'/\GT.own bz F1 w' r p/\(∀b,F1 b->w.heap.size<=b/\b<w'.heap.size)
theorem aj.Zd {α:Type} [GT α] {fO:α->Prop} (S:aj P n w0 M u N β σ a w) {i:Nat} {f:FuncId} {dX:List Value} {d:Tmp} (hc:Calls P f dX.toArray w (B_ w fO))
    (K:∀aD w' aH r p F1,aj P n w0 M w' aH β ⟨(d,.v (GT.val r p))::σ.env,σ.ay⟩ aD w'->fO r->(∀b,N b->aH b/\w'.heap[b]? =u.heap[b]?)->ai w0 M w' aH F1 r p->J N F1->cS aD w')
    (hcall:jr P n ops i σ=some (f,dX,d):=by kernel_rfl) (hd:Nat.blt d n=true:=by kernel_rfl):wpOp P ops Q i cS a w:=
  S.call hcall hc fun _ w' ⟨r,p,F1,he,oE,ez,AB,qf⟩=>⟨_,he,K _ w' _ r p F1 (S.after hd ez) oE (S.up ez) ⟨AB,fun _ h=> .inr (qf _ h),fun _ h=> .inl (Nat.le_trans S.ed.size (qf _ h).1)⟩ (J.fresh S w' qf)⟩
theorem akx {α:Type} [GT α] {fO:α->Prop} {x:α} {p:GT.Ptr α} {v0:Value} {F1:aw} (S:aj P n w0 aa u N β σ a w) (oE:fO x) (AH:v0=GT.val x p) (cL:ai w0 aa u N F1 x p):B_ w0 fO (.returned (packed [v0])) w:=by
  subst AH
  exact⟨x,p,F1,rfl,oE,S.ed,S.hP cL,fun b hb=>⟨(cL.cU b hb).resolve_right (id),(S.sep b (cL.sub b hb)).1⟩⟩
def am9 {α:Type} [GT α] {hj:Type} [GT hj] (c:List d_) (aN:af d_) (G F:aw) (q:af eW) (w:World) (fO:α->hj->Prop) (e:Ending) (w':World):Prop:=
  ∃(r:α) (p:GT.Ptr α) (F1:aw) (gV:hj) (cp:GT.Ptr hj) (aX:aw),e= .returned (.tuple #[GT.val r p,GT.val gV cp])/\fO r gV/\bX F w w'/\GT.own bz F1 w' r p/\GT.own bz aX w' gV cp/\(∀b,F1 b->w.heap.size<=b/\b<w'.heap.size)/\(∀b,aX b->w.heap.size<=b/\b<w'.heap.size)/\J F1 aX/\jm c aN G F w' q
def zf {α:Type} [GT α] {hj:Type} [GT hj] (w:World) (fO:α->hj->Prop) (e:Ending) (w':World):Prop:=
  ∃(r:α) (p:GT.Ptr α) (F1:aw) (gV:hj) (cp:GT.Ptr hj) (aX:aw),e= .returned (.tuple #[GT.val r p,GT.val gV cp])/\fO r gV/\bX aa w w'/\GT.own bz F1 w' r p/\GT.own bz aX w' gV cp/\(∀b,F1 b->w.heap.size<=b/\b<w'.heap.size)/\(∀b,aX b->w.heap.size<=b/\b<w'.heap.size)/\J F1 aX
theorem aj.Ze {α:Type} [GT α] {hj:Type} [GT hj] {fO:α->hj->Prop} (S:aj P n w0 M u N β σ a w) {i:Nat} {f:FuncId} {dX:List Value} {d:Tmp} (hc:Calls P f dX.toArray w (zf w fO))
    (K:∀aD w' aH r p F1 gV cp aX,aj P n w0 M w' aH β ⟨(d,.v (.tuple #[GT.val r p,GT.val gV cp]))::σ.env,σ.ay⟩ aD w'->fO r gV->(∀b,N b->aH b/\w'.heap[b]? =u.heap[b]?)->ai w0 M w' aH F1 r p->ai w0 M w' aH aX gV cp->J N F1->J N aX->J F1 aX->cS aD w')
    (hcall:jr P n ops i σ=some (f,dX,d):=by kernel_rfl) (hd:Nat.blt d n=true:=by kernel_rfl):wpOp P ops Q i cS a w:=
  S.call hcall hc fun _ w' ⟨r,p,F1,gV,cp,aX,he,oE,ez,AB,DE,qf,An,aea⟩=>⟨_,he,K _ w' _ r p F1 gV cp aX (S.after hd ez) oE (S.up ez) ⟨AB,fun _ h=> .inr (qf _ h),fun _ h=> .inl (Nat.le_trans S.ed.size (qf _ h).1)⟩ ⟨DE,fun _ h=> .inr (An _ h),fun _ h=> .inl (Nat.le_trans S.ed.size (An _ h).1)⟩ (J.fresh S w' qf) (J.fresh S w' An) aea⟩
theorem LU {α:Type} [GT α] {hj:Type} [GT hj] {fO:α->hj->Prop} {x:α} {p:GT.Ptr α} {v0:Value} {F1:aw} {lU:hj} {cp:GT.Ptr hj} {v1:Value} {aX:aw} (S:aj P n w0 aa u N β σ a w) (oE:fO x lU) (AH:v0=GT.val x p) (afj:v1=GT.val lU cp) (cL:ai w0 aa u N F1 x p) (fp:ai w0 aa u N aX lU cp) (aaA:J F1 aX):zf w0 fO (.returned (packed [v0,v1])) w:=by
  subst AH afj
  exact⟨x,p,F1,lU,cp,aX,rfl,oE,S.ed,S.hP cL,S.hP fp,fun b hb=>⟨(cL.cU b hb).resolve_right (id),(S.sep b (cL.sub b hb)).1⟩,fun b hb=>⟨(fp.cU b hb).resolve_right (id),(S.sep b (fp.sub b hb)).1⟩,aaA⟩
def am_ {α:Type} [GT α] {hj:Type} [GT hj] {n8:Type} [GT n8] (c:List d_) (aN:af d_) (G F:aw) (q:af eW) (w:World) (fO:α->hj->n8->Prop) (e:Ending) (w':World):Prop:=
  ∃(r:α) (p:GT.Ptr α) (F1:aw) (gV:hj) (cp:GT.Ptr hj) (aX:aw) (n3:n8) (mT:GT.Ptr n8) (cR:aw),e= .returned (.tuple #[GT.val r p,GT.val gV cp,GT.val n3 mT])/\fO r gV n3/\bX F w w'/\GT.own bz F1 w' r p/\GT.own bz aX w' gV cp/\GT.own bz cR w' n3 mT/\(∀b,F1 b->w.heap.size<=b/\b<w'.heap.size)/\(∀b,aX b->w.heap.size<=b/\b<w'.heap.size)/\(∀b,cR b->w.heap.size<=b/\b<w'.heap.size)/\J F1 aX/\J F1 cR/\J aX cR/\jm c aN G F w' q
def ana {α:Type} [GT α] {hj:Type} [GT hj] {n8:Type} [GT n8] (w:World) (fO:α->hj->n8->Prop) (e:Ending) (w':World):Prop:=
  ∃(r:α) (p:GT.Ptr α) (F1:aw) (gV:hj) (cp:GT.Ptr hj) (aX:aw) (n3:n8) (mT:GT.Ptr n8) (cR:aw),e= .returned (.tuple #[GT.val r p,GT.val gV cp,GT.val n3 mT])/\fO r gV n3/\bX aa w w'/\GT.own bz F1 w' r p/\GT.own bz aX w' gV cp/\GT.own bz cR w' n3 mT/\(∀b,F1 b->w.heap.size<=b/\b<w'.heap.size)/\(∀b,aX b->w.heap.size<=b/\b<w'.heap.size)/\(∀b,cR b->w.heap.size<=b/\b<w'.heap.size)/\J F1 aX/\J F1 cR/\J aX cR
def anb {α:Type} [GT α] {hj:Type} [GT hj] {n8:Type} [GT n8] {Fo:Type} [GT Fo] (w:World) (fO:α->hj->n8->Fo->Prop) (e:Ending) (w':World):Prop:=
  ∃(r:α) (p:GT.Ptr α) (F1:aw) (gV:hj) (cp:GT.Ptr hj) (aX:aw) (n3:n8) (mT:GT.Ptr n8) (cR:aw) (LS:Fo) (EB:GT.Ptr Fo) (fQ:aw),e= .returned (.tuple #[GT.val r p,GT.val gV cp,GT.val n3 mT,GT.val LS EB])/\fO r gV n3 LS/\bX aa w w'/\GT.own bz F1 w' r p/\GT.own bz aX w' gV cp/\GT.own bz cR w' n3 mT/\GT.own bz fQ w' LS EB/\(∀b,F1 b->w.heap.size<=b/\b<w'.heap.size)/\(∀b,aX b->w.heap.size<=b/\b<w'.heap.size)/\(∀b,cR b->w.heap.size<=b/\b<w'.heap.size)/\(∀b,fQ b->w.heap.size<=b/\b<w'.heap.size)/\J F1 aX/\J F1 cR/\J F1 fQ/\J aX cR/\J aX fQ/\J cR fQ
theorem Bq {fO:Int->Prop} {x:Int} {v:Value} (S:aj P n w0 F u N β σ a w) (oE:fO x) (bu:v=R x) (hx:aq x) (aF:iJ c aN G w0 F u N F q):lZ c aN G F q w0 fO (.returned (packed [v])) w:=by
  subst bu
  exact⟨x,(),aa,rfl,oE,S.ed,hx,fun b h=>False.elim h,S.dL aF⟩
theorem jm.step {i h':Int} {b1:aw} {cp:Nat->GT.Ptr eW} (h:jm c aN G F w0 q) (ik:ai w0 F u N b1 [(⟨c.length,aN.1,i,h'⟩:eW)] ((q.1,cp):af eW)) (hi:0<=i/\i<=c.length) (ax:aq h') (hs:∀b,b1 b->F b) (bc:∀b,F b->N b):iJ c aN G w0 F u N F q:=by
  have e:((q.1,cp):af eW)=q:=Prod.ext rfl (funext fun _=>(rfl:(():Unit)=()))
  rw [e] at ik
  exact⟨h.rd,h.ap,i,h',hi,ax,ai.mono ik hs bc fun _ hb=> .inr hb⟩
def Ca (c:List d_) (aN:af d_) (w:World) (e:Ending) (w':World):Prop:=
  ∃(b:Nat) (F:aw),e= .returned (aM b 0)/\bX aa w w'/\(∀b,F b->w.heap.size<=b/\b<w'.heap.size)/\jm c aN (ga w.heap.size) F w' (aB b ():af eW)
theorem Uw {i h:Int} {b:Nat} (S:aj P n w0 aa u N β σ a w) (hc:GT.rd bz (ga w0.heap.size) w0 c aN) (o:ai w0 aa u N F [(⟨c.length,aN.1,i,h⟩:eW)] (aB b ():af eW)) (hi:0<=i/\i<=c.length) (ax:aq h):Ca c aN w0 (.returned (packed [aM b 0])) w:=
  ⟨b,F,rfl,S.ed,(S.uM o).2,GT.fJ hc fun b hb _=>S.ed.block b hb id,fun b hb=>⟨Nat.lt_of_lt_of_le hb S.ed.size,fun bm=>Nat.not_lt_of_le ((S.uM o).2 b bm).1 hb⟩,⟨i,h,hi,ax,(S.uM o).1⟩,fun b hb=>((S.uM o).2 b hb).2⟩
theorem aj.Zg (S:aj P n w0 M u N β σ a w) {c:List d_} {aN:af d_} {i:Nat} {f:FuncId} {dX:List Value} {d:Tmp} (hrd:GT.rd bz (ga w0.heap.size) w0 c aN) (hM:∀b,M b->False) (hc:Calls P f dX.toArray w (Ca c aN w))
    (K:∀aD w' aH b F,aj P n w0 M w' aH β ⟨(d,.v (aM b 0))::σ.env,σ.ay⟩ aD w'->(∀b,N b->aH b/\w'.heap[b]? =u.heap[b]?)->iJ c aN (ga w0.heap.size) w0 M w' aH F (aB b ():af eW)->J N F->cS aD w')
    (hcall:jr P n ops i σ=some (f,dX,d):=by kernel_rfl) (hd:Nat.blt d n=true:=by kernel_rfl):wpOp P ops Q i cS a w:=
  S.call hcall hc fun _ w' ⟨b,F,he,ez,bm,ad_⟩=>⟨_,he,K _ w' _ b F (S.after hd ez) (S.up ez)
    ⟨hrd,fun b hb=>⟨hb,fun h=>hM b h⟩,let⟨i,h,h1,ah,aE⟩:=ad_.ex;⟨i,h,h1,ah,aE,fun _ h=> .inr (bm _ h),fun _ h=> .inl (Nat.le_trans S.ed.size (bm _ h).1)⟩⟩ (J.fresh S w' bm)⟩
end
end Go.Proofs.YtmeoackmjdoecaaGreat
namespace Go.Proofs.YtmeoackmjdoecaaGreat
open Go
set_option linter.unusedVariables false
section
variable {P:Program} {n:Nat} {w0:World} {M:aw} {u:World} {N:aw} {β:Nat->Nat} {a:Act} {w:World} {Q:Exit->Act->World->Prop} {c:List d_} {aN:af d_} {G F:aw} {q:af eW}
theorem aj.dS {bh:c_} {α:Type} [GT α] {fO:α->Prop} {f:FuncId} {dX:List Value} {d:Tmp} (S:aj P n w0 M u N β bh.σ a w) (o:iJ c aN G w0 M u N F q) (hc:Calls P f dX.toArray w (lZ c aN G F q w fO)) (K:∀aD w' aH r p F1,aj P n w0 M w' aH β (bh.put d (GT.val r p)).σ aD w'->fO r->(∀b,N b->¬F b->aH b/\w'.heap[b]? =u.heap[b]?)->ai w0 M w' aH F1 r p->J N F1->iJ c aN G w0 M w' aH F q->dD P Q (bh.put d (GT.val r p)) aD w') (hcall:jr P n bh.ca.opsOf bh.ca.idx bh.σ=some (f,dX,d):=by kernel_rfl) (hd:Nat.blt d n=true:=by kernel_rfl) (bU:bh.ca.ka=true:=by kernel_rfl):dD P Q bh a w:=
  ⟨b9 (aj.Zc S (o:=o) (hc:=hc) (hcall:=hcall) (hd:=hd) (K:=fun _ _ _ _ _ _ h0 h1 ah aE b2 cf=>(K _ _ _ _ _ _ h0 h1 ah aE b2 cf).ok)) bU⟩
theorem aj.Wq {bh:c_} {α:Type} [GT α] {fO:α->Prop} {f:FuncId} {dX:List Value} {d:Tmp} (S:aj P n w0 M u N β bh.σ a w) (hc:Calls P f dX.toArray w (B_ w fO)) (K:∀aD w' aH r p F1,aj P n w0 M w' aH β (bh.put d (GT.val r p)).σ aD w'->fO r->(∀b,N b->aH b/\w'.heap[b]? =u.heap[b]?)->ai w0 M w' aH F1 r p->J N F1->dD P Q (bh.put d (GT.val r p)) aD w') (hcall:jr P n bh.ca.opsOf bh.ca.idx bh.σ=some (f,dX,d):=by kernel_rfl) (hd:Nat.blt d n=true:=by kernel_rfl) (bU:bh.ca.ka=true:=by kernel_rfl):dD P Q bh a w:=
  ⟨b9 (aj.Zd S (hc:=hc) (hcall:=hcall) (hd:=hd) (K:=fun _ _ _ _ _ _ h0 h1 ah aE b2=>(K _ _ _ _ _ _ h0 h1 ah aE b2).ok)) bU⟩
theorem aj.Np {bh:c_} {α:Type} [GT α] {hj:Type} [GT hj] {fO:α->hj->Prop} {f:FuncId} {dX:List Value} {d:Tmp} (S:aj P n w0 M u N β bh.σ a w) (hc:Calls P f dX.toArray w (zf w fO)) (K:∀aD w' aH r p F1 gV cp aX,aj P n w0 M w' aH β (bh.put d (.tuple #[GT.val r p,GT.val gV cp])).σ aD w'->fO r gV->(∀b,N b->aH b/\w'.heap[b]? =u.heap[b]?)->ai w0 M w' aH F1 r p->ai w0 M w' aH aX gV cp->J N F1->J N aX->J F1 aX->dD P Q (bh.put d (.tuple #[GT.val r p,GT.val gV cp])) aD w') (hcall:jr P n bh.ca.opsOf bh.ca.idx bh.σ=some (f,dX,d):=by kernel_rfl) (hd:Nat.blt d n=true:=by kernel_rfl) (bU:bh.ca.ka=true:=by kernel_rfl):dD P Q bh a w:=
  ⟨b9 (aj.Ze S (hc:=hc) (hcall:=hcall) (hd:=hd) (K:=fun _ _ _ _ _ _ _ _ _ h0 h1 ah aE b2 cf dU eH=>(K _ _ _ _ _ _ _ _ _ h0 h1 ah aE b2 cf dU eH).ok)) bU⟩
theorem aj.Nq {bh:c_} {c:List d_} {aN:af d_} {f:FuncId} {dX:List Value} {d:Tmp} (S:aj P n w0 M u N β bh.σ a w) (hrd:GT.rd bz (ga w0.heap.size) w0 c aN) (hM:∀b,M b->False) (hc:Calls P f dX.toArray w (Ca c aN w)) (K:∀aD w' aH b F,aj P n w0 M w' aH β (bh.put d (aM b 0)).σ aD w'->(∀b,N b->aH b/\w'.heap[b]? =u.heap[b]?)->iJ c aN (ga w0.heap.size) w0 M w' aH F (aB b ():af eW)->J N F->dD P Q (bh.put d (aM b 0)) aD w') (hcall:jr P n bh.ca.opsOf bh.ca.idx bh.σ=some (f,dX,d):=by kernel_rfl) (hd:Nat.blt d n=true:=by kernel_rfl) (bU:bh.ca.ka=true:=by kernel_rfl):dD P Q bh a w:=
  ⟨b9 (aj.Zg S (hrd:=hrd) (hM:=hM) (hc:=hc) (hcall:=hcall) (hd:=hd) (K:=fun _ _ _ _ _ h0 h1 ah aE=>(K _ _ _ _ _ h0 h1 ah aE).ok)) bU⟩
end
end Go.Proofs.YtmeoackmjdoecaaGreat
namespace Go.Proofs.YtmeoackmjdoecaaGreat
open Go
set_option linter.unusedVariables false
set_option linter.unusedSectionVars false
def aa3 (k:bO) (inner outer:List aA) (i:Nat):aA:=if el k.known i=true then iw (el inner i) outer else⟨-1,0⟩
def an7 (k:bO) (inner outer:List aA):Bool:=decide (k.known.length=inner.length/\k.bN.length=inner.length/\∀i,i<inner.length->el k.bN i=aa3 k inner outer i)
section
variable {k:bO} {inner outer:List aA} {i:Nat} {page:Int}
end
def aom {α:Type} [DecidableEq α] (a b:List α):Bool:=decide (a=b)
section
variable {α:Type} [DecidableEq α] {a b:List α} {k:Nat}
end
end Go.Proofs.YtmeoackmjdoecaaGreat
namespace Go.Proofs.YtmeoackmjdoecaaGreat
open Go
set_option linter.unusedVariables false
def GE (h h':ad):Prop:=h'.I.length=h.I.length/\∀k,(el h'.I k).U=(el h.I k).U
theorem GE.h3 (h:ad):GE h h:=⟨rfl,fun _=>rfl⟩
theorem GE.kh {a b c:ad} (h:GE a b) (h':GE b c):GE a c:=⟨h'.1.trans h.1,fun k=>(h'.2 k).trans (h.2 k)⟩
theorem aaK (xs:List aZ) (i k:Nat) (x:aZ) (e:x.U=(el xs i).U):(el (xs.set i x) k).U=(el xs k).U:=by
  by_cases hi:i<xs.length
  · rw [jJ _ _ _ _ hi];split
    · rename_i h;subst h;exact e
    · rfl
  · rw [List.set_eq_of_length_le (by omega)]
theorem GE.m (h:ad) (m:Nat) (x:aZ) (a:List (List Int)) (b c:List a0) (e:x.U=(el h.I m).U):GE h ⟨a,h.I.set m x,b,c⟩:=⟨List.length_set,fun k=>aaK _ _ _ _ e⟩
theorem GE.E5 {a h:ad} (g:GE a h) (m:Int) (x:aZ) (e:x.U=(el h.I m.toNat).U):GE a (je h m x):=g.kh (GE.m _ _ _ _ _ _ e)
theorem GE.slot {a h:ad} (g:GE a h) (m page:Int) (s:aA):GE a (jM h m page s):=g.kh (GE.m _ _ _ _ _ _ rfl)
theorem GE.send (h:ad) (m page:Int):GE h (iA h m page):=by unfold iA;exact GE.slot (GE.E5 (GE.h3 h) _ _ (by rfl)) _ _ _
theorem GE.put (h:ad) (m page:Int):GE h (om h m page):=by
  unfold om;refine GE.slot ?_ _ _ _;exact GE.m _ _ _ _ _ _ rfl
theorem GE.room (h:ad):GE h (iS h):=by
  unfold iS;split
  · exact GE.h3 _
  · exact GE.send _ _ _
theorem GE.mid (h:ad) (m page:Int):GE h (hZ h m page):=by
  unfold hZ;split
  · exact(GE.room h).kh (GE.put _ _ _)
  · exact GE.h3 _
theorem GE.wr (h:ad) (m page:Int):GE h (nM h m page):=by
  unfold nM;split
  · exact GE.E5 (GE.h3 h) _ _ (by rfl)
  · exact GE.slot (GE.E5 (GE.h3 h) _ _ (by rfl)) _ _ _
theorem GE.agy (h:ad) (m page need:Int):GE h (gA h m page need):=by
  unfold gA;split
  · exact(GE.mid _ _ _).kh (GE.wr _ _ _)
  · exact GE.mid _ _ _
theorem GE.io (h:ad) (b:Bool) (e:a0):GE h (oo h b e):=⟨by unfold oo;split<;>rfl,fun k=>by unfold oo;split<;>rfl⟩
theorem GE.to (h:ad) (m g page need q:Int) (io:Bool):GE h (lE h m g page need q io).1:=by
  unfold lE;split
  · exact GE.h3 _
  · split
    · unfold p3 tE;refine GE.kh (GE.E5 (GE.agy h m q need) m _ ?_) (GE.io _ _ _);rfl
    · exact GE.io _ _ _
section
variable {h Y:ad} {m g:Int} {x:az} {wr:Bool} {X:List aZ}
end
section
variable {xs am6 X:List aZ} {k:Nat} {x:az} {want t:Int}
end
end Go.Proofs.YtmeoackmjdoecaaGreat
namespace Go.Proofs.YtmeoackmjdoecaaGreat
open Go
set_option linter.unusedVariables false
set_option linter.unusedSimpArgs false
theorem Zr {a:bV} (h:dv a):hC (ih a):=⟨dv.x (d:=a) h,dv.y (d:=a) h⟩
def h8 (p:ad×Bool):ad×da:=(p.1,⟨p.2,0⟩)
def ei (h:ad) (a:bV):ad×da:=
  if a.kind=1 then h8 (ix h a.m a.g)
  else if a.kind=2 then h8 (mK h a.m a.g a.x ⟨a.y,a.z⟩)
  else if a.kind=3 then h8 (kD h a.m a.g a.x)
  else if a.kind=4 then h8 (mG h a.m a.g a.x)
  else if a.kind=5 then h8 (mJ h a.m a.g)
  else if a.kind=6 then h8 (mH h a.m a.g a.x)
  else if a.kind=7 then h8 (iO h a.m a.g (ih a))
  else if a.kind=8 then h8 (kZ h a.m a.x a.y a.z)
  else if a.kind=9 then h8 (mI h a.m a.x)
  else if a.kind=10 then((h6 h a.m).1,⟨(h6 h a.m).2.2,(h6 h a.m).2.1⟩)
  else if a.kind=11 then h8 (kC h a.m a.g a.x a.y)
  else if a.kind=12 then((hE h a.m a.g a.x).1,⟨(hE h a.m a.g a.x).2.2,(hE h a.m a.g a.x).2.1⟩)
  else if a.kind=13 then h8 (kF h a.m a.x)
  else if a.kind=14 then h8 (kE h a.m a.x)
  else if a.kind=15 then h8 (mF h a.m a.x)
  else if a.kind=16 then h8 (mP h a.m a.x)
  else if a.kind=17 then(la h,⟨true,0⟩)
  else(h,⟨false,0⟩)
section
variable {h:ad} {a:bV}
theorem H6 (e:a.kind=1):ei h a=h8 (ix h a.m a.g):=by unfold ei;rw [e];rfl
theorem H_ (e:a.kind=2):ei h a=h8 (mK h a.m a.g a.x ⟨a.y,a.z⟩):=by unfold ei;rw [e];rfl
theorem Ia (e:a.kind=3):ei h a=h8 (kD h a.m a.g a.x):=by unfold ei;rw [e];rfl
theorem Ib (e:a.kind=4):ei h a=h8 (mG h a.m a.g a.x):=by unfold ei;rw [e];rfl
theorem Ic (e:a.kind=5):ei h a=h8 (mJ h a.m a.g):=by unfold ei;rw [e];rfl
theorem Ie (e:a.kind=6):ei h a=h8 (mH h a.m a.g a.x):=by unfold ei;rw [e];rfl
theorem Ig (e:a.kind=7):ei h a=h8 (iO h a.m a.g (ih a)):=by unfold ei;rw [e];rfl
theorem Ih (e:a.kind=8):ei h a=h8 (kZ h a.m a.x a.y a.z):=by unfold ei;rw [e];rfl
theorem Ii (e:a.kind=9):ei h a=h8 (mI h a.m a.x):=by unfold ei;rw [e];rfl
theorem H7 (e:a.kind=10):ei h a=((h6 h a.m).1,⟨(h6 h a.m).2.2,(h6 h a.m).2.1⟩):=by unfold ei;rw [e];rfl
theorem H8 (e:a.kind=11):ei h a=h8 (kC h a.m a.g a.x a.y):=by unfold ei;rw [e];rfl
theorem H9 (e:a.kind=12):ei h a=((hE h a.m a.g a.x).1,⟨(hE h a.m a.g a.x).2.2,(hE h a.m a.g a.x).2.1⟩):=by unfold ei;rw [e];rfl
theorem QC (e:a.kind=13):ei h a=h8 (kF h a.m a.x):=by unfold ei;rw [e];rfl
theorem QD (e:a.kind=14):ei h a=h8 (kE h a.m a.x):=by unfold ei;rw [e];rfl
theorem QE (e:a.kind=15):ei h a=h8 (mF h a.m a.x):=by unfold ei;rw [e];rfl
theorem QF (e:a.kind=16):ei h a=h8 (mP h a.m a.x):=by unfold ei;rw [e];rfl
theorem QG (e:a.kind=17):ei h a=(la h,⟨true,0⟩):=by unfold ei;rw [e];rfl
theorem H5 (e:a.kind<1\/17<a.kind):ei h a=(h,⟨false,0⟩):=by
  unfold ei
  rw [if_neg (by omega),if_neg (by omega),if_neg (by omega),if_neg (by omega),if_neg (by omega),if_neg (by omega),if_neg (by omega),if_neg (by omega),if_neg (by omega),if_neg (by omega),if_neg (by omega),if_neg (by omega),if_neg (by omega),if_neg (by omega),if_neg (by omega),if_neg (by omega),if_neg (by omega)]
theorem adY (ah:mL a.kind=true):13<=a.kind/\a.kind<=17:=by
  have b2:=cM (show aS a.kind 13 17=true from ah)
  omega
end
end Go.Proofs.YtmeoackmjdoecaaGreat
namespace Go.Proofs.YtmeoackmjdoecaaGreat
open Go
set_option linter.unusedVariables false
set_option linter.unusedSimpArgs false
def SK (a b:a0):Prop:=¬(a.tag=b.tag/\a.page=b.page)
theorem F3 (b:List a0):lD b=true↔b.Pairwise SK/\b.length<=6:=by
  unfold lD
  rw [Bool.and_eq_true,decide_eq_true_eq,List.pairwise_iff_getElem]
  constructor
  · rintro⟨h1,ah⟩
    refine⟨fun i j hi bJ qg e=>?_,by omega⟩
    have aE:=List.all_eq_true.1 (List.all_eq_true.1 h1 j (List.mem_range.2 bJ)) i (List.mem_range.2 qg)
    rw [hJ bJ,hJ hi] at aE
    simp [e.1,e.2] at aE
  · rintro⟨h1,ah⟩
    refine⟨List.all_eq_true.2 fun i hi=>List.all_eq_true.2 fun k hk=>?_,by omega⟩
    rw [List.mem_range] at hi hk
    have aE:=h1 k i (by omega) hi hk
    rw [hJ hi,hJ (by omega)]
    simp only [Bool.not_eq_true',Bool.and_eq_false_iff,decide_eq_false_iff_not]
    by_cases e:b[i].tag=b[k].tag
    · exact .inr fun bt=>aE ⟨e.symm,bt.symm⟩
    · exact .inl e
theorem zo {b c:List a0} (h:c.Sublist b) (hb:lD b=true):lD c=true:=by
  rw [F3] at hb ⊢
  exact⟨hb.1.sublist h,Nat.le_trans h.length_le hb.2⟩
theorem Pu (b:List a0) (p:Int):(m_ b p).Sublist b:=by
  unfold m_
  split
  · exact List.Sublist.refl _
  · exact List.filter_sublist
theorem aa_ {b:List a0} {p:Int} {e:a0} (h:e∈m_ b p):e∈b/\(¬p=-1->¬e.host=p):=by
  unfold m_ at h
  split at h
  · rename_i a2;exact⟨h,fun bc=>absurd a2 bc⟩
  · unfold oh j5 q7 at h
    rw [List.mem_filter] at h
    exact⟨h.1,fun _ bt=>by simp [bt] at h⟩
theorem Ha {b:List a0} {t p:Int} {e:a0} (h:e∈ds b t p):e∈b/\¬(e.tag=t/\e.page=p):=by
  unfold ds j5 ij at h
  rw [List.mem_filter] at h
  exact⟨h.1,fun bt=>by simp [bt.1,bt.2] at h⟩
theorem T6 {b:List a0} (e:a0) (h:lD b=true):lD (g_ b e)=true:=by
  have hs:(ds b e.tag e.page).Sublist b:=List.filter_sublist
  have h1:=(F3 _).1 (zo hs h)
  have ah:(ds b e.tag e.page++[e]).Pairwise SK:=by
    rw [List.pairwise_append]
    refine⟨h1.1,List.pairwise_singleton _ _,fun x hx y hy=>?_⟩
    rw [List.mem_singleton] at hy;subst hy
    exact(Ha hx).2
  rw [F3]
  unfold g_
  refine⟨ah.sublist (List.drop_sublist _ _),?_⟩
  rw [List.length_drop];omega
theorem T5 {b:List a0} {e x:a0} (h:x∈g_ b e):x∈b\/x=e:=by
  have h1:=List.mem_of_mem_drop h
  rcases List.mem_append.1 h1 with ah|ah
  · exact .inl (Ha ah).1
  · exact .inr (List.mem_singleton.1 ah)
theorem alw {m g hf Db:Nat} (h1:m<=2) (ah:g<=1) (aE:hf<=2) (b2:Db<=1) (e:cq m g=cq hf Db):m=hf/\g=Db:=by
  unfold cq at e
  rw [if_pos (by omega),if_pos (by omega)] at e
  omega
theorem afp {ms:List aZ} {p:Int} (h:iG p ms<=1) (a2:0<=p) {m q hf fX:Nat} (hm:m<ms.length) (aI:q<(el ms m).outer.length) (e:(el (el ms m).outer q).page=p)
    (Dz:hf<ms.length) (yf:fX<(el ms hf).outer.length) (hX:(el (el ms hf).outer fX).page=p):m=hf/\q=fX:=by
  have e4:=E3 p ⟨-1,0⟩ (el ms m).outer q aI
  obtain⟨y,hy⟩:∃y:aZ,y={el ms m with outer:=(el ms m).outer.set q ⟨-1,0⟩}:=⟨_,rfl⟩
  have ue:y.outer=(el ms m).outer.set q ⟨-1,0⟩:=by rw [hy]
  have dO:=Bf p y ms m hm
  rw [ue] at dO
  rw [show one ((el (el ms m).outer q).page=p)=1 from if_pos e,show one ((⟨-1,0⟩:aA).page=p)=0 from if_neg (by simp only;omega)] at e4
  by_cases AA:hf=m
  · subst AA
    refine⟨rfl,?_⟩
    refine Decidable.byContradiction fun gD=>?_
    have bd:1<=jQ p ((el ms hf).outer.set q ⟨-1,0⟩):=BM (k:=fX) (by rw [List.length_set];exact yf) (by rw [jJ _ _ _ _ aI,if_neg (by omega)];exact hX)
    have fl:=Be (p:=p) (l:=ms.set hf y) (k:=hf) (by rw [List.length_set];exact hm)
    rw [fg hm,ue] at fl
    omega
  · have bd:1<=jQ p (el ms hf).outer:=BM yf hX
    have fl:=Be (p:=p) (l:=ms.set m y) (k:=hf) (by rw [List.length_set];exact Dz)
    rw [jJ _ _ _ _ hm,if_neg AA] at fl
    omega
theorem L9 {p:Int}:∀{l:List aA},1<=jQ p l->∃k,k<l.length/\(el l k).page=p
  |
    [],h=>by simp [jQ] at h
  |x::r,h=>by
    rw [s6] at h
    by_cases e:x.page=p
    · exact⟨0,by simp,e⟩
    · rw [show one (x.page=p)=0 from if_neg e] at h
      obtain⟨k,h1,ah⟩:=L9 (p:=p) (l:=r) (by omega)
      exact⟨k+1,by simp;omega,by simpa [el] using ah⟩
theorem Ll {p:Int}:∀{l:List aZ},1<=iG p l->∃m,m<l.length/\1<=jQ p (el l m).outer
  |
    [],h=>by simp [iG] at h
  |x::r,h=>by
    rw [sR] at h
    by_cases e:1<=jQ p x.outer
    · exact⟨0,by simp,e⟩
    · obtain⟨k,h1,ah⟩:=Ll (p:=p) (l:=r) (by omega)
      exact⟨k+1,by simp;omega,by simpa [el] using ah⟩
theorem TP {l:List aA} {page:Int} {k:Nat} (h:kp l page k<0):∀j,k<=j->j<l.length->¬(el l j).page=page:=by
  intro j h1 ah
  by_cases hk:(el l k).page=page
  · rw [Lj (by omega) hk] at h;omega
  · rw [Lk (by omega) hk] at h
    by_cases e:j=k
    · subst e;exact hk
    · exact TP h j (by omega) ah
termination_by l.length-k
theorem TM {ms:List aZ} {page:Int} {i:Nat} (h:(iQ ms page i).1<0):∀j,i<=j->j<ms.length->kp (el ms j).outer page 0<0:=by
  intro j h1 ah
  rw [iQ,if_pos (by omega)] at h
  split at h
  · rename_i bc
    by_cases e:j=i
    · subst e;exact bc
    · exact TM h j (by omega) ah
  · simp only at h;omega
termination_by ms.length-i
theorem aiS {h:ad} {p:Int} (a2:0<=p) (e:(eG h p).1<0):iG p h.I=0:=by
  refine Decidable.byContradiction fun bc=>?_
  obtain⟨m,h1,ah⟩:=Ll (p:=p) (l:=h.I) (by omega)
  obtain⟨k,aE,b2⟩:=L9 ah
  rw [Lo (by omega)] at e
  exact TP (TM e m (by omega) h1) k (by omega) aE b2
theorem Mc:∀(l:List aA) (u:List Bool),u.length=12->(∀s∈l,s.page<=11)->(∀p:Int,0<=p->p<=11->jQ p l+one (el u p.toNat=true)<=1)->(l.foldl n6 (some u)).isSome=true
  |
    [],u,_,_,_=>rfl
  |s::r,u,hu,hs,h=>by
    rw [List.foldl_cons]
    have bo:∀p:Int,0<=p->p<=11->one (s.page=p)+jQ p r+one (el u p.toNat=true)<=1:=fun p h1 ah=>by have:=h p h1 ah;rw [s6] at this;exact this
    by_cases h1:s.page<0
    · rw [E8 h1]
      exact Mc r u hu (fun x hx=>hs x (List.mem_cons_of_mem _ hx)) fun p ah aE=>by have:=bo p ah aE;omega
    · have gp:=hs s List.mem_cons_self
      have ah:=bo s.page (by omega) gp
      rw [show one (s.page=s.page)=1 from if_pos rfl] at ah
      cases aE:el u s.page.toNat with
      |true=>rw [aE,show one (true=true)=1 from if_pos rfl] at ah;omega
      |false=>
        rw [yW h1 aE]
        refine Mc r _ (by rw [List.length_set];exact hu) (fun x hx=>hs x (List.mem_cons_of_mem _ hx)) fun p b2 cf=>?_
        have dU:=bo p b2 cf
        by_cases e:s.page=p
        · subst e
          rw [fg (by omega),show one (true=true)=1 from if_pos rfl]
          rw [show one (s.page=s.page)=1 from if_pos rfl] at dU
          omega
        · rw [show el (u.set s.page.toNat true) p.toNat=el u p.toNat from lB (by omega)];omega
theorem Tj:∀(l:List aZ) (u:List Bool),u.length=12->(∀x∈l,iP x=true/\∀s∈x.outer,s.page<=11)->(∀p:Int,0<=p->p<=11->iG p l+one (el u p.toNat=true)<=1)->(l.foldl pO (some u)).isSome=true
  |
    [],u,_,_,_=>rfl
  |x::r,u,hu,hx,h=>by
    rw [List.foldl_cons,E7 (hx x List.mem_cons_self).1]
    have bo:∀p:Int,0<=p->p<=11->jQ p x.outer+iG p r+one (el u p.toNat=true)<=1:=fun p h1 ah=>by have:=h p h1 ah;rw [sR] at this;exact this
    have h1:=Mc x.outer u hu (hx x List.mem_cons_self).2 fun p ah aE=>by have:=bo p ah aE;omega
    obtain⟨v,bu⟩:=Option.isSome_iff_exists.mp h1
    rw [bu]
    have aeQ:v.length=12:=by rw [(BN (p:=0) (by omega) x.outer (by omega) bu).1];exact hu
    refine Tj r v aeQ (fun y hy=>hx y (List.mem_cons_of_mem _ hy)) fun p ah aE=>?_
    have b2:=(BN (p:=p) ah x.outer (by omega) bu).2
    have cf:=bo p ah aE
    omega
end Go.Proofs.YtmeoackmjdoecaaGreat
namespace Go.Proofs.YtmeoackmjdoecaaGreat
open Go
set_option linter.unusedVariables false
set_option linter.unusedSimpArgs false
structure kz (x:aZ):Prop where
  pb:x.U.length<=2
  hQ:x.tables.length=x.U.length
  rE:h7 x.outer 8 12=true
  ol:x.out.length=8
  dl:x.bj.length=8
  kh:aS x.bQ 0 3=true
  ow:aS x.owned 0 1000000000=true
  nA:∀i,i<8->nb x i=true
def zg (x:aZ):Prop:=1<=x.U.length/\x.U.all na=true/\x.outs.length<=40/\aS x.av 0 255=true
theorem als {t:List aA} {n p:Int} (h:h7 t n p=true):(t.length:Int)=n:=by
  unfold h7 at h
  rw [Bool.and_eq_true] at h
  exact eq_of_beq h.2
theorem kz.bS {x:aZ} (h:kz x):x.outer.length=8:=by have:=als h.rE;omega
theorem UU {s:aA} {p:Int} (h:fz s p=true):s=⟨-1,0⟩\/(0<=s.page/\s.page<=p-1)/\1<=s.bW/\s.bW<=3:=by
  unfold fz aS at h
  simp only [Bool.or_eq_true,Bool.and_eq_true,decide_eq_true_eq] at h
  rcases h with h|h
  · exact .inl h
  · exact .inr ⟨⟨by omega,by omega⟩,by omega,by omega⟩
theorem kz.slot {x:aZ} (h:kz x) {i:Nat} (hi:i<8):el x.outer i=⟨-1,0⟩\/(0<=(el x.outer i).page/\(el x.outer i).page<=11)/\1<=(el x.outer i).bW/\(el x.outer i).bW<=3:=by
  have h1:=h.rE
  unfold h7 at h1
  rw [Bool.and_eq_true,List.all_eq_true] at h1
  have ah:=h1.1 (el x.outer i) (by rw [hJ (by have:=h.bS;omega)];exact List.getElem_mem _)
  have:=UU ah
  rcases this with aE|aE
  · exact .inl aE
  · exact .inr ⟨⟨by omega,by omega⟩,by omega,by omega⟩
theorem kz.none {x:aZ} (h:kz x) {i:Nat} (hi:i<8) (e:(el x.outer i).page=-1):el x.outer i=⟨-1,0⟩:=by
  rcases h.slot hi with h1|h1
  · exact h1
  · omega
theorem kz.out {x:aZ} (h:kz x) {i:Nat} (hi:i<8) (e:(el x.outer i).page=-1):iR (el x.out i)=true:=by
  have h1:=h.nA i hi
  unfold nb at h1
  rw [if_pos (h.none hi e)] at h1
  exact h1
theorem kz.res {x:aZ} (h:kz x) {i:Nat} (hi:i<8) (e:¬(el x.outer i).page=-1):eB (el x.outer i).bW 1=true/\(el x.out i).length=0:=by
  have h1:=h.nA i hi
  unfold nb at h1
  rw [if_neg (fun bt=>e (by rw [bt]))] at h1
  rw [Bool.and_eq_true,decide_eq_true_eq] at h1
  exact h1
theorem Th (x:aZ):iP x=true↔kz x/\zg x:=by
  unfold iP p5 vw zg
  simp only [Bool.and_eq_true,decide_eq_true_eq]
  constructor
  · rintro⟨⟨⟨⟨⟨⟨⟨e4,dO⟩,g8⟩,rY⟩,zj⟩,⟨⟨bd,fl⟩,jX⟩,o2⟩,c⟩,d⟩
    have ang:=cM e4
    exact⟨⟨by omega,dO,g8,rY,zj,jX,o2,fun i hi=>List.all_eq_true.1 d i (List.mem_range.2 hi)⟩,by omega,c,bd,fl⟩
  · rintro⟨⟨e4,dO,g8,rY,zj,jX,o2,d⟩,Cb,c,bd,fl⟩
    refine⟨⟨⟨⟨⟨⟨⟨?_,dO⟩,g8⟩,rY⟩,zj⟩,⟨⟨bd,fl⟩,jX⟩,o2⟩,c⟩,List.all_eq_true.2 fun i hi=>d i (List.mem_range.1 hi)⟩
    unfold aS
    simp only [Bool.and_eq_true,decide_eq_true_eq]
    omega
structure nL (k:bO) (live outer:List aA):Prop where
  sF:live.length=4
  yv:k.known.length=4
  b8:k.bN.length=4
  eq:∀p,p<4->el k.known p=true->el k.bN p=iw (el live p) outer
def mv (ms:List aZ) (e:a0):Prop:=∃m g:Nat,m<ms.length/\g<(el ms m).U.length/\e.tag=cq m g/\(0<=e.page/\e.page<4)/\iw (el (el (el ms m).U g).live e.page.toNat) (el ms m).outer=⟨e.host,e.bW⟩/\¬e.host=-1
structure Inv (h:ad):Prop where
  mem:iy h.mem 12=true
  uv:h.I.length<=3
  bd:lD h.buf=true
  fl:lD h.ar=true
  gf:∀m,m<h.I.length->kz (el h.I m)
  inj:∀p:Int,0<=p->p<=11->iG p h.I<=1
  nF:∀m,m<h.I.length->∀g,g<(el h.I m).U.length->nL (el (el h.I m).tables g) (el (el h.I m).U g).live (el h.I m).outer
  bA:∀e,e∈h.buf->mv h.I e
  bt:∀e,e∈h.ar->mv h.I e
theorem Inv.ok {h:ad} (R:Inv h):dg h=true↔1<=h.I.length/\∀m,m<h.I.length->zg (el h.I m):=by
  constructor
  · exact fun e=>⟨(oA e).1,fun m hm=>((Th _).1 (su e hm)).2⟩
  · rintro⟨h0,hs⟩
    have hl:=R.uv
    unfold dg q4 tF
    rw [R.mem,R.bd,R.fl,show aS (h.I.length:Int) 1 3=true by unfold aS;simp only [Bool.and_eq_true,decide_eq_true_eq];omega]
    refine Bool.and_eq_true_iff.2 ⟨rfl,Tj h.I _ List.length_replicate (fun x hx=>?_) fun p h1 ah=>?_⟩
    · obtain⟨i,hi,rfl⟩:=List.getElem_of_mem hx
      rw [←hJ hi]
      refine⟨(Th _).2 ⟨R.gf i hi,hs i hi⟩,fun s afg=>?_⟩
      obtain⟨j,bJ,rfl⟩:=List.getElem_of_mem afg
      rw [←hJ bJ]
      have:=(R.gf i hi).bS
      rcases (R.gf i hi).slot (i:=j) (by omega) with aE|aE
      · rw [aE];simp
      · omega
    · have:=R.inj p h1 ah
      rw [show el (List.replicate 12 false) p.toNat=false by rw [hJ (by rw [List.length_replicate];omega),List.getElem_replicate],show one (false=true)=0 from if_neg (by simp)]
      omega
theorem Inv.uniq {h:ad} (R:Inv h) {m q hf fX:Nat} (hm:m<h.I.length) (aI:q<8) (Dz:hf<h.I.length) (yf:fX<8) (e:(el (el h.I m).outer q).page=(el (el h.I hf).outer fX).page) (bc:¬(el (el h.I m).outer q).page=-1):m=hf/\q=fX:=by
  have fp:=(R.gf m hm).bS
  have eX:=(R.gf hf Dz).bS
  rcases (R.gf m hm).slot aI with h1|h1
  · rw [h1] at bc;simp at bc
  · exact afp (R.inj _ h1.1.1 h1.1.2) h1.1.1 hm (by omega) rfl Dz (by omega) e.symm
theorem wG {t:List aA} {p:Int} (h:0<=p/\p<t.length):dw t p=el t p.toNat:=if_pos h
theorem yB {m:List (List Int)} {p:Int} (h:0<=p/\p<m.length):gl m p=el m p.toNat:=if_pos h
def jD (mem:List (List Int)) (x:aZ) (q:Nat):List Int:=if(el x.outer q).page=-1 then el x.out q else gl mem (el x.outer q).page
theorem ai2 {h:ad} {m q:Nat} (hm:m<h.I.length) (aI:q<8) (bD:(el h.I m).outer.length=8) (hu:(el h.I m).out.length=8):l8 h (m:Int) (q:Int)=jD h.mem (el h.I m) q:=by
  unfold l8 jD
  have bA:dw (el h.I m).outer (q:Int)=el (el h.I m).outer q:=by rw [wG (by omega),Int.toNat_natCast]
  have bt:gl (el h.I m).out (q:Int)=el (el h.I m).out q:=by rw [yB (by omega),Int.toNat_natCast]
  rw [if_pos ⟨⟨by omega,by omega⟩,by omega,by omega⟩,Int.toNat_natCast,bA,bt]
  by_cases e:(el (el h.I m).outer q).page=-1
  · rw [if_neg (by rw [e];simp),if_pos e]
  · rw [if_pos e,if_neg e]
structure jc (h h':ad):Prop where
  len:h'.I.length=h.I.length
  gs:∀m,m<h.I.length->(el h'.I m).U=(el h.I m).U
  os:∀m,m<h.I.length->(el h'.I m).outs=(el h.I m).outs
  pd:∀m,m<h.I.length->(el h'.I m).av=(el h.I m).av
  cv:∀m q,m<h.I.length->q<8->jD h'.mem (el h'.I m) q=jD h.mem (el h.I m) q
theorem jc.h3 (h:ad):jc h h:=⟨rfl,fun _ _=>rfl,fun _ _=>rfl,fun _ _=>rfl,fun _ _ _ _=>rfl⟩
theorem jc.kh {a b c:ad} (h:jc a b) (h':jc b c):jc a c:=
  ⟨h'.len.trans h.len,fun m hm=>(h'.gs m (by rw [h.len];exact hm)).trans (h.gs m hm),fun m hm=>(h'.os m (by rw [h.len];exact hm)).trans (h.os m hm),fun m hm=>(h'.pd m (by rw [h.len];exact hm)).trans (h.pd m hm),fun m q hm aI=>(h'.cv m q (by rw [h.len];exact hm) aI).trans (h.cv m q hm aI)⟩
theorem mr {h:ad} (R:Inv h) {m:Nat} (hm:m<h.I.length):aG h (m:Int)=⟨(List.range 8).map fun q=>jD h.mem (el h.I m) q,(el h.I m).U,(el h.I m).outs,(el h.I m).av⟩:=by
  unfold aG
  rw [if_pos ⟨by omega,by omega⟩,Int.toNat_natCast]
  congr 1
  refine List.map_congr_left fun q aI=>?_
  rw [List.mem_range] at aI
  exact ai2 hm aI (R.gf m hm).bS (R.gf m hm).ol
theorem yT (h:ad):(js h).length=h.I.length:=by simp [js]
theorem EZ {h:ad} {m:Nat} (hm:m<h.I.length):el (js h) m=aG h (m:Int):=by
  unfold js;rw [GX _ _ _ hm]
theorem jc.seen {h h':ad} (q:jc h h') (R:Inv h) (m1:Inv h'):js h'=js h:=by
  unfold js
  rw [q.len]
  refine List.map_congr_left fun m hm=>?_
  rw [List.mem_range] at hm
  rw [mr R hm,mr m1 (by rw [q.len];exact hm),q.gs m hm,q.os m hm,q.pd m hm]
  congr 1
  refine List.map_congr_left fun p a2=>?_
  rw [List.mem_range] at a2
  exact q.cv m p hm a2
theorem jc.ok {h h':ad} (q:jc h h') (R:Inv h) (m1:Inv h'):dg h'=dg h:=by
  rw [Bool.eq_iff_iff,R.ok,m1.ok,q.len]
  refine and_congr_right fun _=>forall_congr' fun m=>forall_congr' fun hm=>?_
  unfold zg
  rw [q.gs m hm,q.os m hm,q.pd m hm]
theorem mv.set {ms:List aZ} {e:a0} {m:Nat} {y:aZ} (h:mv ms e) (hm:m<ms.length)
    (hk:∀g,g<(el ms m).U.length->e.tag=cq m g->(0<=e.page/\e.page<4)->iw (el (el (el ms m).U g).live e.page.toNat) (el ms m).outer=⟨e.host,e.bW⟩->¬e.host=-1->
      g<y.U.length/\iw (el (el y.U g).live e.page.toNat) y.outer=⟨e.host,e.bW⟩):mv (ms.set m y) e:=by
  obtain⟨hf,g,h1,ah,aE,b2,cf,dU⟩:=h
  refine⟨hf,g,by rw [List.length_set];exact h1,?_⟩
  rw [jJ _ _ _ _ hm]
  by_cases bA:hf=m
  · subst bA
    rw [if_pos rfl]
    obtain⟨cH,nv⟩:=hk g ah aE b2 cf dU
    exact⟨cH,aE,b2,nv,dU⟩
  · rw [if_neg bA]
    exact⟨ah,aE,b2,cf,dU⟩
theorem Inv.uZ {h:ad} (R:Inv h) {m:Nat} (hm:m<h.I.length) {mem:List (List Int)} {y:aZ} {b c:List a0} (h1:iy mem 12=true) (ah:kz y)
    (aE:∀p:Int,0<=p->p<=11->iG p (h.I.set m y)<=1) (b2:∀g,g<y.U.length->nL (el y.tables g) (el y.U g).live y.outer) (cf:lD b=true) (dU:lD c=true)
    (eH:∀e,e∈b->mv (h.I.set m y) e) (e_:∀e,e∈c->mv (h.I.set m y) e):Inv ⟨mem,h.I.set m y,b,c⟩ where
  mem:=h1
  uv:=by simp only [List.length_set];exact R.uv
  bd:=cf
  fl:=dU
  gf k hk:=by
    simp only [List.length_set] at hk
    simp only [jJ _ _ _ _ hm]
    split
    · exact ah
    · exact R.gf k hk
  inj:=aE
  nF k hk:=by
    simp only [List.length_set] at hk
    simp only [jJ _ _ _ _ hm]
    split
    · exact b2
    · exact R.nF k hk
  bA:=eH
  bt:=e_
theorem Ln {ms:List aZ} {m:Nat} {y:aZ} (hm:m<ms.length) {p:Int} (e:jQ p y.outer=jQ p (el ms m).outer):iG p (ms.set m y)=iG p ms:=by
  have:=Bf p y ms m hm
  omega
theorem Inv.keep {h:ad} (R:Inv h) {m:Nat} (hm:m<h.I.length) {y:aZ} (h1:kz y) (aJ:y.U.length=(el h.I m).U.length) (hl:∀g,g<(el h.I m).U.length->(el y.U g).live=(el (el h.I m).U g).live) (bD:y.outer=(el h.I m).outer) (bC:y.tables=(el h.I m).tables):Inv ⟨h.mem,h.I.set m y,h.buf,h.ar⟩:=
  R.uZ hm R.mem h1 (fun p a b=>by rw [Ln hm (by rw [bD])];exact R.inj p a b) (fun g nR=>by rw [aJ] at nR;rw [bC,hl g nR,bD];exact R.nF m hm g nR) R.bd R.fl
    (fun e he=>(R.bA e he).set hm fun g a b c d _=>⟨by omega,by rw [hl g a,bD];exact d⟩) (fun e he=>(R.bt e he).set hm fun g a b c d _=>⟨by omega,by rw [hl g a,bD];exact d⟩)
theorem jc.set {h:ad} {m:Nat} (hm:m<h.I.length) {mem:List (List Int)} {y:aZ} {b c:List a0} (aJ:y.U=(el h.I m).U) (bD:y.outs=(el h.I m).outs) (a2:y.av=(el h.I m).av)
    (qj:∀q,q<8->jD mem y q=jD h.mem (el h.I m) q) (bo:∀k q,k<h.I.length->¬k=m->q<8->jD mem (el h.I k) q=jD h.mem (el h.I k) q):jc h ⟨mem,h.I.set m y,b,c⟩ where
  len:=List.length_set
  gs k hk:=by simp only [jJ _ _ _ _ hm];split<;>simp_all
  os k hk:=by simp only [jJ _ _ _ _ hm];split<;>simp_all
  pd k hk:=by simp only [jJ _ _ _ _ hm];split<;>simp_all
  cv k q hk aI:=by
    simp only [jJ _ _ _ _ hm]
    split
    · rename_i e;subst e;exact qj q aI
    · rename_i e;exact bo k q hk e aI
end Go.Proofs.YtmeoackmjdoecaaGreat
namespace Go.Proofs.YtmeoackmjdoecaaGreat
open Go
set_option linter.unusedVariables false
set_option linter.unusedSimpArgs false
theorem ak9 {t:List aA} {q:Nat} {p:Int} (s:aA) (h:¬p=(q:Int)):dw (t.set q s) p=dw t p:=by
  unfold dw
  rw [List.length_set]
  by_cases a2:0<=p/\p<t.length
  · rw [if_pos a2,if_pos a2]
    exact lB (by omega)
  · rw [if_neg a2,if_neg a2]
theorem OE {x:aA} {t:List aA} {q:Nat} (s:aA) (h:¬x.page=(q:Int)):iw x (t.set q s)=iw x t:=by
  unfold iw;rw [ak9 s h]
theorem Gn {x:aA} {t:List aA} {a b:Int} (h:iw x t=⟨a,b⟩) (bc:¬a=-1):(dw t x.page).page=a/\¬x.page=-1/\b=mE x.bW (dw t x.page).bW/\¬b=0:=by
  unfold iw at h
  split at h
  · injection h with h1 ah;omega
  · rename_i hc
    injection h with h1 ah
    exact⟨h1,fun e=>hc (.inl e),ah.symm,fun e=>hc (.inr (.inr (by omega)))⟩
theorem zW:∀(l:List Int) (k:bO),k.known.length=4->k.bN.length=4->(l.foldl gL k).known.length=4/\(l.foldl gL k).bN.length=4/\
    ∀p:Nat,p<4->el (l.foldl gL k).known p=true->el k.known p=true/\el (l.foldl gL k).bN p=el k.bN p/\¬(p:Int)∈l
  |
    [],k,h1,ah=>⟨h1,ah,fun p a2 e=>⟨e,rfl,by simp⟩⟩
  |i::r,k,h1,ah=>by
    rw [List.foldl_cons]
    by_cases hi:(0<=i/\i<k.known.length)/\i<k.bN.length
    · have bA:gL k i=⟨k.known.set i.toNat false,k.bN.set i.toNat ⟨-1,0⟩⟩:=if_pos hi
      obtain⟨e4,dO,g8⟩:=zW r (gL k i) (by rw [bA];simp [h1]) (by rw [bA];simp [ah])
      refine⟨e4,dO,fun p a2 e=>?_⟩
      obtain⟨bd,fl,jX⟩:=g8 p a2 e
      rw [show(gL k i).known=k.known.set i.toNat false by rw [bA]] at bd
      rw [show(gL k i).bN=k.bN.set i.toNat ⟨-1,0⟩ by rw [bA]] at fl
      have gD:¬p=i.toNat:=fun bt=>by subst bt;rw [fg (by omega)] at bd;cases bd
      rw [lB (by omega)] at bd fl
      exact⟨bd,fl,fun bt=>(List.mem_cons.1 bt).elim (fun fm=>by omega) jX⟩
    · have bA:gL k i=k:=if_neg hi
      rw [bA]
      obtain⟨e4,dO,g8⟩:=zW r k h1 ah
      refine⟨e4,dO,fun p a2 e=>?_⟩
      obtain⟨bd,fl,jX⟩:=g8 p a2 e
      exact⟨bd,fl,fun bt=>(List.mem_cons.1 bt).elim (fun fm=>by omega) jX⟩
theorem alJ {t:List aA} {page:Int} {p:Nat} (a2:p<t.length) (e:(el t p).page=page):(p:Int)∈kH t page:=by
  unfold kH j3
  rw [List.mem_map]
  exact⟨p,List.mem_filter.2 ⟨List.mem_range.2 a2,by simp [e]⟩,rfl⟩
theorem nL.alI {k:bO} {live outer:List aA} (h:nL k live outer) (q:Nat) (s:aA):nL (r9 k live (q:Int)) live (outer.set q s):=by
  obtain⟨e4,dO,g8⟩:=zW (kH live (q:Int)) k h.yv h.b8
  refine⟨h.sF,e4,dO,fun p a2 e=>?_⟩
  obtain⟨bd,fl,jX⟩:=g8 p a2 e
  have bt:el (r9 k live (q:Int)).bN p=el k.bN p:=fl
  rw [bt,h.eq p a2 bd,OE s fun fm=>jX (alJ (by rw [h.sF];exact a2) fm)]
theorem U1 (t:List bO) (g:List az) (page:Int):∀(n:Nat) {j:Nat},n<=t.length->j<n->el (ng t g page n) j=r9 (el t j) (el g j).live page
  |
    0,j,_,h=>by omega
  |n+1,j,bc,h=>by
    unfold ng
    by_cases e:j=n
    · subst e;rw [fg (by rw [BT];omega)]
    · rw [show el ((ng t g page n).set n (r9 (el t n) (el g n).live page)) j=el (ng t g page n) j from lB (by omega)]
      exact U1 t g page n (by omega) (by omega)
theorem mv.slot {ms:List aZ} {b:List a0} {e:a0} {m q:Nat} {y:aZ} {s:aA} (hb:∀e,e∈b->mv ms e) (he:e∈m_ b (el (el ms m).outer q).page) (hm:m<ms.length) (aI:q<(el ms m).outer.length) (aJ:y.U=(el ms m).U) (bD:y.outer=(el ms m).outer.set q s):mv (ms.set m y) e:=by
  obtain⟨Kv,Kw⟩:=aa_ he
  refine(hb e Kv).set hm fun g a b c d bc=>⟨by rw [aJ];exact a,?_⟩
  rw [aJ,bD,OE s fun bt=>?_]
  · exact d
  · have h1:=(Gn d bc).1
    rw [bt,wG (by omega),Int.toNat_natCast] at h1
    exact Kw (by omega) h1.symm
theorem alu {t:List aA} {n p:Int} {q:Nat} {s:aA} (h:h7 t n p=true) (hs:fz s p=true):h7 (t.set q s) n p=true:=by
  unfold h7 at h ⊢
  rw [Bool.and_eq_true,List.all_eq_true] at h ⊢
  refine⟨fun x hx=>?_,by rw [List.length_set];exact h.2⟩
  rcases List.mem_or_eq_of_mem_set hx with h1|h1
  · exact h.1 x h1
  · subst h1;exact hs
theorem kz.ak_ {x:aZ} (h:kz x) {q:Nat} (aI:q<8) {s:aA} {out:List (List Int)} {bj:List Bool} {t:List bO} (hs:fz s 12=true) (bD:out.length=8) (hd:bj.length=8) (bC:t.length=x.U.length) (h1:∀i,i<8->¬i=q->el out i=el x.out i)
    (ah:if s=⟨-1,0⟩ then iR (el out q)=true else eB s.bW 1=true/\(el out q).length=0):kz ({x with out:=out,bj:=bj,tables:=t,outer:=x.outer.set q s}:aZ) where
  pb:=h.pb
  hQ:=bC
  rE:=alu h.rE hs
  ol:=bD
  dl:=hd
  kh:=h.kh
  ow:=h.ow
  nA i hi:=by
    have e_:=h.bS
    unfold nb
    simp only
    by_cases e:i=q
    · subst e
      rw [fg (by omega)]
      split at ah
      · rename_i e;rw [if_pos e];exact ah
      · rename_i e;rw [if_neg e,Bool.and_eq_true,decide_eq_true_eq];exact ah
    · rw [show el (x.outer.set q s) i=el x.outer i from lB (by omega),h1 i hi e]
      have:=h.nA i hi
      unfold nb at this
      exact this
def s5 (h:ad) (m q:Nat) (mem:List (List Int)) (out:List (List Int)) (bj:List Bool) (s:aA):ad:=
  ⟨mem,h.I.set m {el h.I m with out:=out,bj:=bj,tables:=ng (el h.I m).tables (el h.I m).U (q:Int) (el h.I m).U.length,outer:=(el h.I m).outer.set q s},m_ h.buf (el (el h.I m).outer q).page,m_ h.ar (el (el h.I m).outer q).page⟩
theorem L_ {h:ad} {m q:Nat} (hm:m<h.I.length) (mem out:List (List Int)) (bj:List Bool) (s:aA):jM ⟨mem,h.I.set m {el h.I m with out:=out,bj:=bj},h.buf,h.ar⟩ (m:Int) (q:Int) s=s5 h m q mem out bj s:=by
  unfold jM s5
  simp only [Int.toNat_natCast,fg hm,List.set_set]
theorem Inv.slot {h:ad} (R:Inv h) {m q:Nat} (hm:m<h.I.length) (aI:q<8) {mem out:List (List Int)} {bj:List Bool} {s:aA} (Jb:iy mem 12=true) (hs:fz s 12=true) (bD:out.length=8) (hd:bj.length=8) (h1:∀i,i<8->¬i=q->el out i=el (el h.I m).out i)
    (ah:if s=⟨-1,0⟩ then iR (el out q)=true else eB s.bW 1=true/\(el out q).length=0) (aE:s.page=-1\/s.page=(el (el h.I m).outer q).page\/iG s.page h.I=0):Inv (s5 h m q mem out bj s):=by
  have O:=R.gf m hm
  have e_:=O.bS
  refine R.uZ hm Jb (O.ak_ aI hs bD hd ((BT _ _ _ _).trans O.hQ) h1 ah) (fun p Lr qq=>?_) (fun g aJ=>?_) (zo (Pu _ _) R.bd) (zo (Pu _ _) R.fl) (fun e he=>mv.slot R.bA he hm (by omega) rfl rfl) (fun e he=>mv.slot R.bt he hm (by omega) rfl rfl)
  · have e4:=E3 p s (el h.I m).outer q (by omega)
    obtain⟨y,hy⟩:∃y:aZ,y={el h.I m with out:=out,bj:=bj,tables:=ng (el h.I m).tables (el h.I m).U (q:Int) (el h.I m).U.length,outer:=(el h.I m).outer.set q s}:=⟨_,rfl⟩
    rw [←hy]
    have ue:y.outer=(el h.I m).outer.set q s:=by rw [hy]
    have dO:=Bf p y h.I m hm
    rw [ue] at dO
    have g8:=R.inj p Lr qq
    have le:∀(c:Prop) [Decidable c],one c<=1:=fun c _=>by unfold one;split<;>omega
    by_cases bA:s.page=p
    · rcases aE with e|e|e
      · omega
      · rw [show one (s.page=p)=1 from if_pos bA,show one ((el (el h.I m).outer q).page=p)=1 from if_pos (by omega)] at e4
        omega
      · rw [bA] at e
        have:=le (s.page=p)
        omega
    · rw [show one (s.page=p)=0 from if_neg bA] at e4
      omega
  · simp only at aJ ⊢
    rw [U1 _ _ _ _ (by rw [O.hQ];exact Nat.le_refl _) aJ]
    exact(R.nF m hm g aJ).alI q s
theorem jc.slot {h:ad} (R:Inv h) {m q:Nat} (hm:m<h.I.length) (aI:q<8) {mem out:List (List Int)} {bj:List Bool} {s:aA} (hl:out.length=8) (h1:∀i,i<8->¬i=q->el out i=el (el h.I m).out i)
    (ah:∀k i,k<h.I.length->i<8->¬(k=m/\i=q)->¬(el (el h.I k).outer i).page=-1->gl mem (el (el h.I k).outer i).page=gl h.mem (el (el h.I k).outer i).page)
    (aE:(if s.page=-1 then el out q else gl mem s.page)=jD h.mem (el h.I m) q):jc h (s5 h m q mem out bj s):=by
  have e_:=(R.gf m hm).bS
  refine jc.set hm rfl rfl rfl (fun i hi=>?_) fun k i hk Dw hi=>?_
  · by_cases e:i=q
    · subst e
      rw [←aE]
      unfold jD
      simp only
      rw [fg (by omega)]
    · unfold jD
      simp only
      rw [show el ((el h.I m).outer.set q s) i=el (el h.I m).outer i from lB (by omega),h1 i hi e]
      by_cases bt:(el (el h.I m).outer i).page=-1
      · rw [if_pos bt,if_pos bt]
      · rw [if_neg bt,if_neg bt];exact ah m i hm hi (fun fm=>e fm.2) bt
  · unfold jD
    by_cases bt:(el (el h.I k).outer i).page=-1
    · rw [if_pos bt,if_pos bt]
    · rw [if_neg bt,if_neg bt];exact ah k i hk hi (fun fm=>Dw fm.1) bt
end Go.Proofs.YtmeoackmjdoecaaGreat
namespace Go.Proofs.YtmeoackmjdoecaaGreat
open Go
set_option linter.unusedVariables false
set_option linter.unusedSimpArgs false
def f_ (h h':ad):Prop:=Inv h'/\jc h h'
theorem f_.h3 {h:ad} (R:Inv h):f_ h h:=⟨R,jc.h3 h⟩
theorem f_.kh {a b c:ad} (h:f_ a b) (h':f_ b c):f_ a c:=⟨h'.1,h.2.kh h'.2⟩
theorem AT {m:List (List Int)} {n:Int} (h:iy m n=true):(m.length:Int)=n:=by
  unfold iy at h
  rw [Bool.and_eq_true] at h
  exact eq_of_beq h.2
theorem Td {m:List (List Int)} {n:Int} {k:Nat} {c:List Int} (h:iy m n=true) (hc:iR c=true):iy (m.set k c) n=true:=by
  unfold iy at h ⊢
  rw [Bool.and_eq_true,List.all_eq_true] at h ⊢
  refine⟨fun x hx=>?_,by rw [List.length_set];exact h.2⟩
  rcases List.mem_or_eq_of_mem_set hx with h1|h1
  · exact h.1 x h1
  · subst h1;exact hc
theorem alO {m:List (List Int)} {n p:Int} {c:List Int} (h:iy m n=true):iy (mQ m p c) n=true:=by
  unfold mQ
  split
  · rename_i e;exact Td h e.2
  · exact h
theorem T1 {m:List (List Int)} {k:Nat} {p:Int} {c:List Int} (h:¬p=(k:Int)):gl (m.set k c) p=gl m p:=by
  unfold gl
  rw [List.length_set]
  by_cases a2:0<=p/\p<m.length
  · rw [if_pos a2,if_pos a2]
    exact lB (by omega)
  · rw [if_neg a2,if_neg a2]
theorem ai0 {m:List (List Int)} {p q:Int} {c:List Int} (h:¬p=q):gl (mQ m q c) p=gl m p:=by
  unfold mQ
  split
  · rename_i e;exact T1 (by omega)
  · rfl
theorem kz.aaz {x:aZ} (h:kz x) {d:List Bool} (hd:d.length=8):kz ({x with bj:=d}:aZ):=⟨h.pb,h.hQ,h.rE,h.ol,hd,h.kh,h.ow,h.nA⟩
theorem Ka {h:ad} (R:Inv h) {m:Nat} (hm:m<h.I.length) {d:List Bool} (hd:d.length=8):f_ h (je h (m:Int) {el h.I m with bj:=d}):=
  ⟨R.keep hm ((R.gf m hm).aaz hd) rfl (fun _ _=>rfl) rfl rfl,jc.set hm rfl rfl rfl (fun _ _=>rfl) fun _ _ _ _ _=>rfl⟩
theorem UM {h:ad} {m q:Nat} (hm:m<h.I.length):iA h (m:Int) (q:Int)=s5 h m q h.mem ((el h.I m).out.set q (gl h.mem (el (el h.I m).outer q).page)) (el h.I m).bj ⟨-1,0⟩:=by
  rw [←L_ hm];rfl
theorem SO {h:ad} (R:Inv h) {m q:Nat} (hm:m<h.I.length) (aI:q<8) (bc:¬(el (el h.I m).outer q).page=-1):f_ h (iA h (m:Int) (q:Int)):=by
  have O:=R.gf m hm
  have bA:el ((el h.I m).out.set q (gl h.mem (el (el h.I m).outer q).page)) q=gl h.mem (el (el h.I m).outer q).page:=fg (by rw [O.ol];exact aI)
  rw [UM hm]
  refine⟨R.slot hm aI R.mem (by decide) (by rw [List.length_set];exact O.ol) O.dl (fun i hi e=>lB (by omega)) (by rw [if_pos rfl,bA];exact Lv R.mem) (.inl rfl),
    jc.slot R hm aI (by rw [List.length_set];exact O.ol) (fun i hi e=>lB (by omega)) (fun _ _ _ _ _ _=>rfl) ?_⟩
  rw [if_pos rfl,bA]
  unfold jD
  rw [if_neg bc]
theorem ak3 {h:ad} {m q:Nat} (hm:m<h.I.length) {k i:Nat} (hk:k<h.I.length) (afb:q<(el h.I m).outer.length) (e:(el (el h.I k).outer i).page=-1):(el (el (iA h (m:Int) (q:Int)).I k).outer i).page=-1:=by
  rw [UM hm]
  unfold s5
  simp only [jJ _ _ _ _ hm]
  split
  · rename_i bA;subst bA
    simp only
    rw [jJ _ _ _ _ afb]
    split
    · rfl
    · exact e
  · exact e
theorem PD {h:ad} (R:Inv h) (bm:0<(eN h).length):(0<=el (eN h) 0/\el (eN h) 0<=11)/\iG (el (eN h) 0) h.I=0:=by
  have h1:el (eN h) 0∈eN h:=by rw [hJ bm];exact List.getElem_mem _
  have hl:=AT R.mem
  generalize el (eN h) 0=f at h1 ⊢
  unfold eN j3 at h1
  rw [List.mem_map] at h1
  obtain⟨i,ah,rfl⟩:=h1
  rw [List.mem_filter,List.mem_range,decide_eq_true_eq] at ah
  exact⟨⟨by omega,by omega⟩,aiS (by omega) ah.2⟩
theorem ai_ {h:ad} {m q:Nat} (hm:m<h.I.length):om h (m:Int) (q:Int)=s5 h m q (mQ h.mem (el (eN h) 0) (el (el h.I m).out q)) ((el h.I m).out.set q []) (el h.I m).bj ⟨el (eN h) 0,3⟩:=by
  rw [←L_ hm];rfl
theorem afL {h:ad} (R:Inv h) {m q:Nat} (hm:m<h.I.length) (aI:q<8) (bc:(el (el h.I m).outer q).page=-1) (bm:0<(eN h).length):f_ h (om h (m:Int) (q:Int)):=by
  have O:=R.gf m hm
  obtain⟨An,mc⟩:=PD R bm
  have hl:=AT R.mem
  rw [ai_ hm]
  generalize el (eN h) 0=f at An mc ⊢
  have bA:el ((el h.I m).out.set q []) q=[]:=fg (by rw [O.ol];exact aI)
  refine⟨R.slot hm aI (alO R.mem) ?_ (by rw [List.length_set];exact O.ol) O.dl (fun i hi e=>lB (by omega)) ?_ (.inr (.inr mc)),
    jc.slot R hm aI (by rw [List.length_set];exact O.ol) (fun i hi e=>lB (by omega)) (fun k i hk hi _ gD=>?_) ?_⟩
  · unfold fz aS
    simp only [Bool.or_eq_true,Bool.and_eq_true,decide_eq_true_eq]
    exact .inr ⟨⟨by omega,by omega,by omega⟩,by omega,by omega⟩
  · rw [if_neg (fun e=>by injection e with bt _;omega),bA]
    exact⟨show eB 3 1=true by decide,rfl⟩
  · refine ai0 fun e=>?_
    have e4:=BM (p:=f) (l:=(el h.I k).outer) (k:=i) (by rw [(R.gf k hk).bS];exact hi) e
    have dO:=Be (p:=f) hk
    omega
  · rw [if_neg (show ¬(⟨f,3⟩:aA).page=-1 by simp only;omega)]
    unfold jD mQ
    rw [if_pos bc,if_pos ⟨⟨by omega,by omega⟩,O.out aI bc⟩]
    simp only
    rw [yB (by rw [List.length_set];omega)]
    exact fg (by omega)
theorem afM {h:ad} (R:Inv h) (e:dg h=true):f_ h (iS h)/\0<(eN (iS h)).length/\∀k i,k<h.I.length->(el (el h.I k).outer i).page=-1->(el (el (iS h).I k).outer i).page=-1:=by
  by_cases bm:0<(eN h).length
  · rw [show iS h=h from if_pos bm]
    exact⟨f_.h3 R,bm,fun _ _ _ h=>h⟩
  · rw [show iS h=tI h from if_neg bm]
    refine⟨?_,L6 e bm,?_⟩
    all_goals
      have hl:=AT R.mem
      obtain⟨e4,dO,g8⟩:=Lp (PE bm (p:=0) (by omega))
      unfold tI
      obtain⟨M,hM⟩:=Int.eq_ofNat_of_zero_le e4.1
      obtain⟨Q,xZ⟩:=Int.eq_ofNat_of_zero_le dO.1
      simp only [Int.natCast_zero,Int.ofNat_zero,show((0:Nat):Int)=0 from rfl] at e4 dO g8 hM xZ
      rw [hM] at e4 dO g8 ⊢
      rw [xZ] at dO g8 ⊢
      simp only [Int.toNat_natCast] at dO g8
    · have e_:=(R.gf M (by omega)).bS
      exact SO R (by omega) (by omega) (by rw [g8];decide)
    · exact fun k i hk bt=>ak3 (by omega) hk (by omega) bt
theorem SL {h:ad} (R:Inv h) (e:dg h=true) {m q:Nat} (hm:m<h.I.length) (aI:q<8) (bc:(el (el h.I m).outer q).page=-1):f_ h (lb h (m:Int) (q:Int))/\¬(el (el (lb h (m:Int) (q:Int)).I m).outer q).page=-1:=by
  obtain⟨s3,gV,n3⟩:=afM R e
  have rq:m<(iS h).I.length:=by rw [s3.2.len];exact hm
  unfold lb
  refine⟨s3.kh (afL s3.1 rq aI (n3 m q hm bc) gV),?_⟩
  have e_:=(s3.1.gf m rq).bS
  have h1:=T8 (h:=iS h) (m:=(m:Int)) (page:=(q:Int)) (by rw [Int.toNat_natCast];exact rq) (by rw [Int.toNat_natCast,Int.toNat_natCast];omega)
  rw [Int.toNat_natCast,Int.toNat_natCast] at h1
  rw [h1]
  have:=(PD s3.1 gV).1
  simp only
  omega
theorem afI {h:ad} (R:Inv h) (e:dg h=true) {m q:Nat} (hm:m<h.I.length) (aI:q<8):f_ h (hZ h (m:Int) (q:Int))/\¬(el (el (hZ h (m:Int) (q:Int)).I m).outer q).page=-1:=by
  unfold hZ
  rw [Int.toNat_natCast,Int.toNat_natCast]
  split
  · rename_i bc;exact SL R e hm aI bc
  · rename_i bc;exact⟨f_.h3 R,bc⟩
theorem SN {h:ad} (R:Inv h) {m q:Nat} (hm:m<h.I.length) (aI:q<8) (bc:¬(el (el h.I m).outer q).page=-1) {d:List Bool} (hd:d.length=8) {r:Int} (bo:r=1\/r=3):
    f_ h (jM (je h (m:Int) {el h.I m with bj:=d}) (m:Int) (q:Int) ⟨(el (el h.I m).outer q).page,r⟩)/\el (el (jM (je h (m:Int) {el h.I m with bj:=d}) (m:Int) (q:Int) ⟨(el (el h.I m).outer q).page,r⟩).I m).outer q=⟨(el (el h.I m).outer q).page,r⟩:=by
  have O:=R.gf m hm
  have bA:jM (je h (m:Int) {el h.I m with bj:=d}) (m:Int) (q:Int) ⟨(el (el h.I m).outer q).page,r⟩=s5 h m q h.mem (el h.I m).out d ⟨(el (el h.I m).outer q).page,r⟩:=by
    rw [←L_ hm];rfl
  rw [bA]
  refine⟨⟨R.slot hm aI R.mem ?_ O.ol hd (fun _ _ _=>rfl) ?_ (.inr (.inl rfl)),jc.slot R hm aI O.ol (fun _ _ _=>rfl) (fun _ _ _ _ _ _=>rfl) ?_⟩,?_⟩
  · rcases O.slot aI with h1|h1
    · rw [h1] at bc;exact absurd rfl bc
    · unfold fz aS
      simp only [Bool.or_eq_true,Bool.and_eq_true,decide_eq_true_eq]
      exact .inr ⟨⟨by omega,by omega,by omega⟩,by omega,by omega⟩
  · rw [if_neg (fun e=>by injection e with bt _;exact bc bt)]
    refine⟨?_,(O.res aI bc).2⟩
    rcases bo with rfl|rfl
    · exact show eB 1 1=true by decide
    · exact show eB 3 1=true by decide
  · rw [if_neg (show ¬(⟨(el (el h.I m).outer q).page,r⟩:aA).page=-1 from bc)]
    unfold jD
    rw [if_neg bc]
  · unfold s5
    simp only [fg hm]
    exact fg (by rw [O.bS];exact aI)
theorem afO {h:ad} (R:Inv h) {m q:Nat} (hm:m<h.I.length) (aI:q<8) (bc:¬(el (el h.I m).outer q).page=-1):f_ h (nM h (m:Int) (q:Int))/\¬(el (el (nM h (m:Int) (q:Int)).I m).outer q).page=-1/\eB (el (el (nM h (m:Int) (q:Int)).I m).outer q).bW 2=true:=by
  have O:=R.gf m hm
  have hd:((el h.I m).bj.set q true).length=8:=by rw [List.length_set];exact O.dl
  unfold nM
  rw [Int.toNat_natCast,Int.toNat_natCast]
  split
  · rename_i he
    refine⟨Ka R hm hd,?_⟩
    unfold je
    simp only [Int.toNat_natCast,fg hm]
    exact⟨bc,he⟩
  · obtain⟨cH,nv⟩:=SN R hm aI bc hd (r:=3) (.inr rfl)
    refine⟨cH,?_⟩
    rw [nv]
    exact⟨bc,show eB 3 2=true by decide⟩
theorem SM {h:ad} (R:Inv h) (e:dg h=true) {m q:Nat} (hm:m<h.I.length) (aI:q<8) (need:Int):f_ h (gA h (m:Int) (q:Int) need)/\¬(el (el (gA h (m:Int) (q:Int) need).I m).outer q).page=-1/\(eB need 2=true->eB (el (el (gA h (m:Int) (q:Int) need).I m).outer q).bW 2=true):=by
  obtain⟨cH,nv⟩:=afI R e hm aI
  unfold gA
  split
  · obtain⟨kQ,lu,g4⟩:=afO cH.1 (by rw [cH.2.len];exact hm) aI nv
    exact⟨cH.kh kQ,lu,fun _=>g4⟩
  · rename_i bc;exact⟨cH,nv,fun h=>absurd h bc⟩
theorem Dn {h:ad} {m page:Int} (e:eF h m page=true):dg h=true/\∃a b:Nat,m=a/\page=b/\a<h.I.length/\b<8:=by
  have h1:=rl e
  obtain⟨ah,aE,_⟩:=nq e
  exact⟨h1,m.toNat,page.toNat,by omega,by omega,by omega,by omega⟩
theorem afK {h:ad} (R:Inv h) (m page:Int):f_ h (kF h m page).1:=by
  unfold kF
  split
  · rename_i e
    obtain⟨h1,a,b,rfl,rfl,bR,hb⟩:=Dn e.1
    have ah:=e.2
    rw [Int.toNat_natCast,Int.toNat_natCast] at ah
    exact SO R bR hb ah
  · exact f_.h3 R
theorem afJ {h:ad} (R:Inv h) (m page:Int):f_ h (kE h m page).1:=by
  unfold kE
  split
  · rename_i e
    obtain⟨h1,a,b,rfl,rfl,bR,hb⟩:=Dn e.1
    have ah:=e.2
    rw [Int.toNat_natCast,Int.toNat_natCast] at ah
    exact(SL R h1 bR hb ah).1
  · exact f_.h3 R
theorem afH {h:ad} (R:Inv h) (m page:Int):f_ h (mF h m page).1:=by
  unfold mF
  split
  · rename_i e
    obtain⟨h1,a,b,rfl,rfl,bR,hb⟩:=Dn e
    have hd:((el h.I a).bj.set b false).length=8:=by rw [List.length_set];exact(R.gf a bR).dl
    simp only [Int.toNat_natCast]
    split
    · exact Ka R bR hd
    · rename_i bc;exact(SN R bR hb bc hd (.inl rfl)).1
  · exact f_.h3 R
theorem afN {h:ad} (R:Inv h) (m t:Int):f_ h (mP h m t).1:=by
  unfold mP
  split
  · rename_i e
    have hm:m.toNat<h.I.length:=by omega
    have O:=R.gf _ hm
    exact⟨R.keep hm ⟨O.pb,O.hQ,O.rE,O.ol,O.dl,by unfold aS;simp only [Bool.and_eq_true,decide_eq_true_eq];omega,O.ow,O.nA⟩ rfl (fun _ _=>rfl) rfl rfl,jc.set hm rfl rfl rfl (fun _ _=>rfl) fun _ _ _ _ _=>rfl⟩
  · exact f_.h3 R
theorem zQ {α β:Type} [GT α] [GT β] {f:α->β} {l:List α} {k:Nat} (h:k<l.length):el (l.map f) k=f (el l k):=by
  rw [hJ (by rw [List.length_map];exact h),hJ h,List.getElem_map]
theorem nL.all {k:bO} {live outer:List aA} (h:nL k live outer):nL (j1 k) live outer:=by
  have p0:j1 k=((List.range k.known.length).map fun(i:Nat)=>(i:Int)).foldl gL k:=by
    unfold j1 r8;rw [List.foldl_map]
  obtain⟨e4,dO,g8⟩:=zW ((List.range k.known.length).map fun(i:Nat)=>(i:Int)) k h.yv h.b8
  rw [←p0] at e4 dO g8
  refine⟨h.sF,e4,dO,fun p a2 e=>absurd ?_ (g8 p a2 e).2.2⟩
  exact List.mem_map.2 ⟨p,List.mem_range.2 (by rw [h.yv];exact a2),rfl⟩
theorem afF {h:ad} (R:Inv h):f_ h (la h):=by
  have xC:∀k,k<h.I.length->el (la h).I k=C5 (el h.I k):=fun k hk=>zQ hk
  refine⟨⟨R.mem,by simp only [la,List.length_map];exact R.uv,rfl,rfl,fun k hk=>?_,fun p a b=>?_,fun k hk=>?_,fun e he=>?_,fun e he=>?_⟩,⟨by simp [la],fun k hk=>by rw [xC k hk];rfl,fun k hk=>by rw [xC k hk];rfl,fun k hk=>by rw [xC k hk];rfl,fun k q hk aI=>by rw [xC k hk];rfl⟩⟩
  · have hk:k<h.I.length:=by simpa [la] using hk
    rw [xC k hk]
    have O:=R.gf k hk
    exact⟨O.pb,by show(List.map j1 _).length=_;rw [List.length_map];exact O.hQ,O.rE,O.ol,O.dl,O.kh,O.ow,O.nA⟩
  · have:iG p (la h).I=iG p h.I:=by
      unfold iG la;rw [List.map_map];rfl
    rw [this];exact R.inj p a b
  · have hk:k<h.I.length:=by simpa [la] using hk
    rw [xC k hk]
    intro g aJ
    have nR:g<(el h.I k).U.length:=aJ
    show nL (el ((el h.I k).tables.map j1) g) _ _
    rw [zQ (by rw [(R.gf k hk).hQ];exact nR)]
    exact(R.nF k hk g nR).all
  · exact absurd he (by simp [la])
  · exact absurd he (by simp [la])
end Go.Proofs.YtmeoackmjdoecaaGreat
namespace Go.Proofs.YtmeoackmjdoecaaGreat
open Go
set_option linter.unusedVariables false
set_option linter.unusedSimpArgs false
theorem O9 {r n:Int} (h:eB r n=true):0<=r/\r<=3:=by
  unfold eB at h
  simp only [Bool.and_eq_true] at h
  exact cM h.1.1
theorem Xi {a b n:Int} (h1:eB a n=true) (ah:eB b n=true) (bc:n=1\/n=2):¬mE a b=0:=by
  have e4:=O9 h1
  have bd:=O9 ah
  have bR:a=0\/a=1\/a=2\/a=3:=by omega
  have hb:b=0\/b=1\/b=2\/b=3:=by omega
  rcases bc with rfl|rfl<;>rcases bR with rfl|rfl|rfl|rfl<;>rcases hb with rfl|rfl|rfl|rfl<;>first|(exfalso;revert h1;decide)|(exfalso;revert ah;decide)|decide
theorem Inv.LA {h:ad} (R:Inv h) (io:Bool) {e:a0} (he:mv h.I e):Inv (oo h io e):=by
  unfold oo
  cases io
  · rw [if_neg (by simp)]
    exact⟨R.mem,R.uv,T6 e R.bd,R.fl,R.gf,R.inj,R.nF,fun x hx=>(T5 hx).elim (R.bA x) (fun bt=>bt▸he),R.bt⟩
  · rw [if_pos rfl]
    exact⟨R.mem,R.uv,R.bd,T6 e R.fl,R.gf,R.inj,R.nF,R.bA,fun x hx=>(T5 hx).elim (R.bt x) (fun bt=>bt▸he)⟩
theorem aja (h:ad) (io:Bool) (e:a0):(oo h io e).I=h.I/\(oo h io e).mem=h.mem:=by unfold oo;split<;>exact⟨rfl,rfl⟩
theorem jc.LA (h:ad) (io:Bool) (e:a0):jc h (oo h io e):=by unfold oo;split<;>exact⟨rfl,fun _ _=>rfl,fun _ _=>rfl,fun _ _=>rfl,fun _ _ _ _=>rfl⟩
structure FL (h:ad) (m q:Nat) (r:ad×Int×Bool):Prop where
  jN:f_ h r.1
  at_:r.2.1=(el (el r.1.I m).outer q).page
  ne:¬r.2.1=-1
  ok:r.2.2=true
theorem S7 {h:ad} (R:Inv h) {m g p q:Nat} {c:aA} (hm:m<h.I.length) (aJ:g<(el h.I m).U.length) (a2:p<4) (hs:(el (el (el h.I m).U g).live p).page=(q:Int)) (aI:q<8) (io:Bool)
    (hc:(bK (el (el h.I m).tables g) (p:Int)).1=c) (hk:iw (el (el (el h.I m).U g).live p) (el h.I m).outer=c) (bc:¬c.page=-1):FL h m q (p3 h (m:Int) (g:Int) (p:Int) io):=by
  unfold p3 Pm
  simp only [Int.toNat_natCast]
  rw [hc]
  have e_:=(R.gf m hm).bS
  refine⟨⟨R.LA io ⟨m,g,hm,aJ,rfl,by simp only;omega,?_,bc⟩,jc.LA _ _ _⟩,?_,bc,rfl⟩
  · simp only [Int.toNat_natCast];exact hk
  · simp only
    rw [(aja _ _ _).1]
    have h1:=(Gn (a:=c.page) (b:=c.bW) hk bc).1
    rw [hs,wG (by omega),Int.toNat_natCast] at h1
    exact h1.symm
theorem NH {k:bO} {live outer:List aA} (h:nL k live outer) {p:Nat} (a2:p<4) (e:el k.known p=true):bK k (p:Int)=(iw (el live p) outer,true):=by
  unfold bK
  rw [if_pos ⟨⟨⟨by omega,by rw [h.yv];omega⟩,by rw [h.b8];omega⟩,by rw [Int.toNat_natCast];exact e⟩,Int.toNat_natCast,h.eq p a2 e]
theorem Pp {k:bO} {live outer:List aA} (h:nL k live outer) {p:Nat} (a2:p<4):nL (q3 k live outer (p:Int)) live outer/\el (q3 k live outer (p:Int)).known p=true:=by
  have h1:=h.sF
  have ah:=h.yv
  have aE:=h.b8
  unfold q3
  rw [if_pos ⟨⟨⟨by omega,by omega⟩,by omega⟩,by omega⟩,Int.toNat_natCast]
  refine⟨⟨h1,by rw [List.length_set];exact ah,by rw [List.length_set];exact aE,fun j bJ e=>?_⟩,fg (by omega)⟩
  simp only at e ⊢
  by_cases aaJ:j=p
  · subst aaJ;rw [fg (by omega)]
  · rw [lB (by omega)] at e ⊢;exact h.eq j bJ e
theorem afG {h:ad} (R:Inv h) {m g p:Nat} (hm:m<h.I.length) (aJ:g<(el h.I m).U.length) (a2:p<4):f_ h (tE h (m:Int) (g:Int) (p:Int))/\el (tE h (m:Int) (g:Int) (p:Int)).I m={el h.I m with tables:=xG (el h.I m) (g:Int) (p:Int)}:=by
  have O:=R.gf m hm
  have hl:(xG (el h.I m) (g:Int) (p:Int)).length=(el h.I m).tables.length:=List.length_set
  unfold tE je
  rw [Int.toNat_natCast]
  refine⟨⟨R.uZ hm R.mem ⟨O.pb,hl.trans O.hQ,O.rE,O.ol,O.dl,O.kh,O.ow,O.nA⟩ (fun x a b=>Nat.le_trans (Nat.le_of_eq (Ln hm rfl)) (R.inj x a b)) (fun j bJ=>?_) R.bd R.fl (fun e he=>(R.bA e he).set hm fun g a b c d _=>⟨a,d⟩) (fun e he=>(R.bt e he).set hm fun g a b c d _=>⟨a,d⟩),jc.set hm rfl rfl rfl (fun _ _=>rfl) fun _ _ _ _ _=>rfl⟩,fg hm⟩
  have Rp:j<(el h.I m).U.length:=bJ
  show nL (el (xG (el h.I m) (g:Int) (p:Int)) j) _ _
  unfold xG
  rw [Int.toNat_natCast,jJ _ _ _ _ (by rw [O.hQ];exact aJ)]
  split
  · rename_i e;subst e;exact(Pp (R.nF m hm j Rp) a2).1
  · exact R.nF m hm j Rp
theorem aa7 {b:List a0} {t p n:Int} (h:C8 b t p n=true):(eQ b t p).1∈b/\(eQ b t p).1.tag=t/\(eQ b t p).1.page=p:=by
  unfold C8 at h
  rw [Bool.and_eq_true] at h
  have h1:=h.1
  unfold eQ at h1 ⊢
  cases bm:b.find? (fun e=>ij e t p) with
  |none=>rw [bm] at h1;cases h1
  |some e=>
    have ah:=List.find?_some bm
    unfold ij at ah
    simp only [Bool.and_eq_true,beq_iff_eq] at ah
    exact⟨List.mem_of_find?_eq_some bm,ah.1,ah.2⟩
theorem ago {h:ad} (R:Inv h) (e:dg h=true) {m g p q:Nat} (hm:m<h.I.length) (aJ:g<(el h.I m).U.length) (a2:p<4) (hs:(el (el (el h.I m).U g).live p).page=(q:Int)) (aI:q<8) {need:Int} (bc:need=1\/need=2) (bo:eB (el (el (el h.I m).U g).live p).bW need=true) (io:Bool):
    FL h m q (lE h (m:Int) (g:Int) (p:Int) need (q:Int) io):=by
  have O:=R.gf m hm
  have e_:=O.bS
  have t_:=R.uv
  unfold lE
  split
  · rename_i bm
    obtain⟨f1,f2,f3⟩:=aa7 bm
    have Dq:mv h.I (eQ (og h io) (cq (m:Int) (g:Int)) (p:Int)).1:=by
      unfold og at f1 ⊢
      cases io
      · rw [if_neg (by simp)] at f1 ⊢;exact R.bA _ f1
      · rw [if_pos rfl] at f1 ⊢;exact R.bt _ f1
    obtain⟨hf,Db,cH,nv,AN,aqj,SI,SJ⟩:=Dq
    rw [f2] at AN
    obtain⟨rfl,rfl⟩:=alw (by omega) (by have:=O.pb;omega) (by omega) (by have:=(R.gf hf cH).pb;omega) AN
    rw [f3,Int.toNat_natCast] at SI
    have h1:=(Gn SI SJ).1
    rw [hs,wG (by omega),Int.toNat_natCast] at h1
    exact⟨f_.h3 R,h1.symm,SJ,rfl⟩
  · split
    · obtain⟨cH,nv,AN⟩:=SM R e hm aI need
      generalize gA h (m:Int) (q:Int) need=z at cH nv AN
      have vW:m<z.I.length:=by rw [cH.2.len];exact hm
      have Du:=cH.2.gs m hm
      have nR:g<(el z.I m).U.length:=by rw [Du];exact aJ
      have FM:=cH.1.gf m vW
      obtain⟨kQ,lu⟩:=afG cH.1 vW nR a2
      have afd:eB (el (el z.I m).outer q).bW need=true:=by
        rcases bc with rfl|rfl
        · exact(FM.res aI nv).1
        · exact AN (by decide)
      have Rc:iw (el (el (el z.I m).U g).live p) (el z.I m).outer=⟨(el (el z.I m).outer q).page,mE (el (el (el z.I m).U g).live p).bW (el (el z.I m).outer q).bW⟩:=by
        have ho:(el (el (el z.I m).U g).live p).page=(q:Int):=by rw [Du];exact hs
        unfold iw
        rw [ho,wG (by rw [FM.bS];omega),Int.toNat_natCast,if_neg]
        rintro(h1|h1|h1)
        · omega
        · exact nv h1
        · exact Xi (by rw [Du];exact bo) afd bc h1
      have Ri:=Pp (cH.1.nF m vW g nR) a2
      generalize tE z (m:Int) (g:Int) (p:Int)=y at kQ lu
      have I4:el (el y.I m).tables g=q3 (el (el z.I m).tables g) (el (el z.I m).U g).live (el z.I m).outer (p:Int):=by
        rw [lu];unfold xG;simp only;rw [Int.toNat_natCast,fg (by rw [FM.hQ];exact nR)]
      have ou:=S7 (q:=q) (c:=⟨(el (el z.I m).outer q).page,mE (el (el (el z.I m).U g).live p).bW (el (el z.I m).outer q).bW⟩) kQ.1 (by rw [kQ.2.len];exact vW) (g:=g) (p:=p) (by rw [lu];exact nR) a2 (by rw [lu];simp only;rw [Du];exact hs) aI io
        (by rw [I4,NH Ri.1 a2 Ri.2];exact Rc) (by rw [lu];exact Rc) nv
      exact⟨(cH.kh kQ).kh ou.jN,ou.at_,ou.ne,ou.ok⟩
    · rename_i hu
      have T:=R.nF m hm g aJ
      have hu:xJ (el (el h.I m).tables g) (p:Int) need=false:=by simpa using hu
      unfold xJ at hu
      simp only [Bool.or_eq_false_iff,Bool.not_eq_false'] at hu
      have hk:el (el (el h.I m).tables g).known p=true:=by
        have h1:=hu.1.1
        unfold bK at h1
        split at h1
        · rename_i ah;rw [Int.toNat_natCast] at ah;exact ah.2
        · cases h1
      have bR:=NH T a2 hk
      have qj:=hu.1.2
      rw [bR] at qj
      exact S7 R hm aJ a2 hs aI io (by rw [bR]) rfl (fun h1=>by simp [h1] at qj)
theorem Ko {h:ad} (R:Inv h) (e:dg h=true) {m g:Nat} (hm:m<h.I.length) (aJ:g<(el h.I m).U.length) (page:Int) {need:Int} (bc:need=1\/need=2) (io:Bool):
    (c6 (el (el h.I m).U g).live page need).2=false/\bk h (m:Int) (g:Int) page need io=(h,-1,false)\/
    (c6 (el (el h.I m).U g).live page need).2=true/\∃q:Nat,q<8/\(c6 (el (el h.I m).U g).live page need).1=(q:Int)/\FL h m q (bk h (m:Int) (g:Int) page need io):=by
  cases hw:(c6 (el (el h.I m).U g).live page need).2 with
  |false=>
    refine .inl ⟨rfl,AP ?_⟩
    unfold p4
    simp only [Int.toNat_natCast,hw,Bool.and_false]
  |true=>
    right
    have adU:=((R.ok.1 e).2 m hm).2
    have T:=R.nF m hm g aJ
    have I3:=List.all_eq_true.1 adU.1 (el (el h.I m).U g) (by rw [hJ aJ];exact List.getElem_mem _)
    have I_:h7 (el (el h.I m).U g).live 4 8=true:=by
      unfold na at I3
      simp only [Bool.and_eq_true] at I3
      exact I3.1.1.1.1.2
    have Jx:=hw
    unfold c6 at Jx
    split at Jx
    · cases Jx
    · rename_i hc
      have vO:¬(dw (el (el h.I m).U g).live page).page=-1:=fun h=>hc (.inl h)
      have sm:eB (dw (el (el h.I m).U g).live page).bW need=true:=by
        cases hx:eB (dw (el (el h.I m).U g).live page).bW need
        · exact absurd (.inr (.inl hx)) hc
        · rfl
      have DF:0<=page/\page<(el (el h.I m).U g).live.length:=by
        refine Decidable.byContradiction fun hx=>vO ?_
        unfold dw;rw [if_neg hx]
      rw [T.sF] at DF
      obtain⟨p,rfl⟩:=Int.eq_ofNat_of_zero_le DF.1
      have hpl:p<4:=by omega
      rw [wG (by rw [T.sF];exact DF)] at vO sm
      rw [Int.toNat_natCast] at vO sm
      have Jr:(0<=(el (el (el h.I m).U g).live p).page/\(el (el (el h.I m).U g).live p).page<=7):=by
        unfold h7 at I_
        rw [Bool.and_eq_true,List.all_eq_true] at I_
        have ah:=I_.1 (el (el (el h.I m).U g).live p) (by rw [hJ (xs:=(el (el h.I m).U g).live) (by rw [T.sF];exact hpl)];exact List.getElem_mem _)
        rcases UU ah with aE|aE
        · rw [aE] at vO;exact absurd rfl vO
        · omega
      have RQ:(c6 (el (el h.I m).U g).live (p:Int) need).1=(el (el (el h.I m).U g).live p).page:=by
        unfold c6
        rw [if_neg hc]
        simp only
        rw [wG (by rw [T.sF];exact DF),Int.toNat_natCast]
      obtain⟨q,aI⟩:=Int.eq_ofNat_of_zero_le Jr.1
      refine⟨rfl,q,by omega,by rw [RQ,aI],?_⟩
      unfold bk
      rw [if_pos (by
        unfold p4
        simp only [Int.toNat_natCast,Bool.and_eq_true,decide_eq_true_eq]
        exact⟨⟨⟨⟨e,by omega,by omega⟩,by omega,by omega⟩,bc⟩,hw⟩)]
      have aew:sb h (m:Int) (g:Int) (p:Int) need=(q:Int):=by unfold sb;rw [Int.toNat_natCast,Int.toNat_natCast,RQ,aI]
      rw [aew]
      have hd:f_ h (m9 h (m:Int) (q:Int) need):=by
        unfold m9
        split
        · unfold q2
          simp only [Int.toNat_natCast]
          exact Ka R hm (by rw [List.length_set];exact(R.gf m hm).dl)
        · exact f_.h3 R
      have I2:=hd.2.gs m hm
      have ou:=ago (q:=q) hd.1 (by rw [hd.2.ok R hd.1];exact e) (m:=m) (g:=g) (p:=p) (by rw [hd.2.len];exact hm) (by rw [I2];exact aJ) hpl (by rw [I2];exact aI) (by omega) bc (by rw [I2];exact sm) io
      exact⟨hd.kh ou.jN,ou.at_,ou.ne,ou.ok⟩
end Go.Proofs.YtmeoackmjdoecaaGreat
namespace Go.Proofs.YtmeoackmjdoecaaGreat
open Go
set_option linter.unusedVariables false
set_option linter.unusedSimpArgs false
structure gj (h h':ad) (m:Nat) (b:a9):Prop where
  inv:Inv h'
  len:h'.I.length=h.I.length
  Ej:aG h' (m:Int)=b
  uL:∀k:Nat,k<h.I.length->¬k=m->aG h' (k:Int)=aG h (k:Int)
theorem yS {h h':ad} (R:Inv h) (k:f_ h h') {m:Nat} (hm:m<h.I.length):aG h' (m:Int)=aG h (m:Int):=by
  rw [mr R hm,mr k.1 (by rw [k.2.len];exact hm),k.2.gs m hm,k.2.os m hm,k.2.pd m hm]
  congr 1
  refine List.map_congr_left fun p a2=>?_
  rw [List.mem_range] at a2
  exact k.2.cv m p hm a2
theorem f_.BP {h h1 ah:ad} {m:Nat} {b:a9} (R:Inv h) (k:f_ h h1) (s:gj h1 ah m b):gj h ah m b:=
  ⟨s.inv,s.len.trans k.2.len,s.Ej,fun j bJ gD=>(s.uL j (by rw [k.2.len];exact bJ) gD).trans (yS R k bJ)⟩
theorem gj.h3 {h:ad} (R:Inv h) (m:Nat):gj h h m (aG h (m:Int)):=⟨R,rfl,rfl,fun _ _ _=>rfl⟩
theorem pN {h:ad} {m:Nat} (hm:m<h.I.length):(aG h (m:Int)).U=(el h.I m).U/\(aG h (m:Int)).outs=(el h.I m).outs/\(aG h (m:Int)).av=(el h.I m).av:=by
  unfold aG
  rw [if_pos ⟨by omega,by omega⟩,Int.toNat_natCast]
  exact⟨rfl,rfl,rfl⟩
theorem Mh {h:ad} (R:Inv h) {m:Nat} (hm:m<h.I.length) {gs:List az} {os:List Int} {pd ow:Int} (aJ:gs.length=(el h.I m).U.length) (hl:∀g,g<(el h.I m).U.length->(el gs g).live=(el (el h.I m).U g).live) (hw:aS ow 0 1000000000=true):
    gj h ⟨h.mem,h.I.set m {el h.I m with U:=gs,outs:=os,av:=pd,owned:=ow},h.buf,h.ar⟩ m ⟨(aG h (m:Int)).mem,gs,os,pd⟩:=by
  have O:=R.gf m hm
  have m1:Inv ⟨h.mem,h.I.set m {el h.I m with U:=gs,outs:=os,av:=pd,owned:=ow},h.buf,h.ar⟩:=
    R.keep hm ⟨by simp only;rw [aJ];exact O.pb,by simp only;rw [aJ];exact O.hQ,O.rE,O.ol,O.dl,O.kh,hw,O.nA⟩ aJ hl rfl rfl
  have tY:(h.I.set m {el h.I m with U:=gs,outs:=os,av:=pd,owned:=ow}).length=h.I.length:=List.length_set
  refine⟨m1,tY,?_,fun k hk gD=>?_⟩
  · rw [mr m1 (by rw [tY];exact hm),mr R hm]
    simp only [fg hm]
    rfl
  · rw [mr m1 (by rw [tY];exact hk),mr R hk]
    simp only
    rw [jJ _ _ _ _ hm,if_neg gD]
structure qM (b:a9) (r:a9×Bool):Prop where
  mem:r.1.mem=b.mem
  os:r.1.outs=b.outs
  pb:r.1.U.length=b.U.length
  agx:∀g,g<b.U.length->(el r.1.U g).live=(el b.U g).live
  no:r.2=false->r.1=b
theorem Xd (b:a9):(⟨b.mem,b.U,b.outs,b.av⟩:a9)=b:=rfl
theorem wI {h:ad} (R:Inv h) (e:dg h=true) {m:Nat} (hm:m<h.I.length) {r:a9×Bool} (L:qM (aG h (m:Int)) r):gj h (bP h (m:Int) r).1 m r.1/\(bP h (m:Int) r).2=r.2:=by
  obtain⟨s1,s2,ja⟩:=pN hm
  unfold bP
  cases bo:r.2 with
  |true=>
    rw [if_pos ⟨⟨e,by omega,by omega⟩,rfl⟩]
    refine⟨?_,rfl⟩
    have h1:=Mh R hm (gs:=r.1.U) (os:=(el h.I m).outs) (pd:=r.1.av) (ow:=(el h.I m).owned) (by rw [L.pb,s1]) (fun g aJ=>by rw [L.agx g (by rw [s1];exact aJ),s1]) (R.gf m hm).ow
    rw [←s2,←L.os,←L.mem,Xd] at h1
    unfold mC
    rw [Int.toNat_natCast]
    have bt:(el h.I m).outs=r.1.outs:=by rw [L.os,s2]
    rw [show({el h.I m with U:=r.1.U,av:=r.1.av}:aZ)={el h.I m with U:=r.1.U,outs:=r.1.outs,av:=r.1.av,owned:=(el h.I m).owned} by rw [←bt]]
    exact h1
  |false=>
    rw [if_neg (by rintro⟨_,ah⟩;cases ah)]
    exact⟨by rw [L.no bo];exact gj.h3 R m,rfl⟩
theorem Kp (b:a9):qM b (b,false):=⟨rfl,rfl,rfl,fun _ _=>rfl,fun _=>rfl⟩
theorem AQ (b:a9) (g:Int) (c:Bool) (F:az->az) (eb:∀x,(F x).live=x.live):qM b (cd b g c F):=by
  unfold cd
  split
  · rename_i e
    refine⟨rfl,rfl,List.length_set,fun k hk=>?_,fun h=>(by cases h)⟩
    simp only
    rw [jJ _ _ _ _ (by omega)]
    split
    · rename_i bt;subst bt;exact eb _
    · rfl
  · exact Kp b
theorem agj (x:az):(cj x).live=x.live:=rfl
theorem S0 (x:az) (n:Int):(mO x n).live=x.live:=by unfold mO;split<;>rfl
theorem agh (x:az):(p1 x).live=x.live:=by
  unfold p1;split
  · exact S0 _ _
  · rfl
theorem agk (x:az):(p6 x).live=x.live:=by
  unfold p6;split
  · unfold G7
    repeat' split
    all_goals rfl
  · rfl
theorem agl (x:az) (t w:Int):(jt x t w).1.live=x.live:=by
  unfold jt
  repeat' split
  all_goals rfl
theorem agi (x:az) (v:Int):(k0 x v).live=x.live:=by
  unfold k0;rw [agj,S0]
theorem agv (b:a9) (g p:Int) (s:aA):qM b (jd b g p s):=AQ _ _ _ _ fun _=>rfl
theorem agq (b:a9) (g v:Int):qM b (jZ b g v):=AQ _ _ _ _ fun x=>by unfold eT;split<;>rfl
theorem agu (b:a9) (g:Int):qM b (j0 b g):=AQ _ _ _ _ fun x=>by unfold nd;split<;>rfl
theorem ags (b:a9) (g n:Int):qM b (jL b g n):=AQ _ _ _ _ fun _=>rfl
theorem agr (b:a9) (g:Int) (c:eM):qM b (jK b g c):=AQ _ _ _ _ fun _=>rfl
theorem Lx (n:Int):∀(l:List Int) (gs:List az),(l.foldl (uY n) gs).length=gs.length/\∀g,(el (l.foldl (uY n) gs) g).live=(el gs g).live
  |
    [],gs=>⟨rfl,fun _=>rfl⟩
  |i::r,gs=>by
    obtain⟨e4,dO⟩:=Lx n r (uY n gs i)
    rw [List.foldl_cons]
    refine⟨e4.trans List.length_set,fun g=>(dO g).trans ?_⟩
    unfold uY
    by_cases hi:i.toNat<gs.length
    · rw [jJ _ _ _ _ hi]
      split
      · rename_i e;subst e;rfl
      · rfl
    · rw [List.set_eq_of_length_le (by omega)]
theorem agt (b:a9) (n:Int):qM b (iM b n):=by
  unfold iM
  split
  · exact⟨rfl,rfl,(Lx n _ _).1,fun g _=>(Lx n _ _).2 g,fun h=>(by cases h)⟩
  · exact Kp b
theorem agp (b:a9):qM b (er b):=by
  unfold er iL
  split
  · exact⟨rfl,rfl,rfl,fun _ _=>rfl,fun h=>(by cases h)⟩
  · exact Kp b
def ts (cv:List Int) (c v:Int):List Int:=if(0<=c/\c<cv.length)/\0<=v/\v<=99 then cv.set c.toNat v else cv
theorem Vd {m:List (List Int)} {p:Nat} (a2:p<m.length) (c v:Int):gm m (p:Int) c v=m.set p (ts (el m p) c v):=by
  unfold gm ts
  rw [Int.toNat_natCast]
  by_cases h:(0<=c/\c<(el m p).length)/\0<=v/\v<=99
  · rw [if_pos ⟨⟨⟨by omega,by omega⟩,h.1⟩,h.2⟩,if_pos h]
  · rw [if_neg (fun ah=>h ⟨ah.1.2,ah.2⟩),if_neg h]
    exact UQ.symm
theorem Zj {cv:List Int} (h:iR cv=true) (c v:Int):iR (ts cv c v)=true:=by
  unfold ts
  split
  · rename_i e
    unfold iR at h ⊢
    rw [Bool.and_eq_true,List.all_eq_true] at h ⊢
    refine⟨fun x hx=>?_,by rw [List.length_set];exact h.2⟩
    rcases List.mem_or_eq_of_mem_set hx with h1|h1
    · exact h.1 x h1
    · subst h1;unfold aS;simp only [Bool.and_eq_true,decide_eq_true_eq];omega
  · exact h
theorem akl (f:Nat->List Int) {q:Nat} (aI:q<8) (c:List Int):((List.range 8).map f).set q c=(List.range 8).map fun i=>if i=q then c else f i:=by
  apply List.ext_getElem
  · simp
  · intro i h1 ah
    rw [List.getElem_set]
    simp only [List.getElem_map,List.getElem_range]
    by_cases e:q=i
    · rw [if_pos e,if_pos e.symm]
    · rw [if_neg e,if_neg (fun bt=>e bt.symm)]
theorem Mg {h:ad} (R:Inv h) {m q:Nat} (hm:m<h.I.length) (aI:q<8) (bc:¬(el (el h.I m).outer q).page=-1) (c v:Int):
    gj h ⟨gm h.mem (el (el h.I m).outer q).page c v,h.I,h.buf,h.ar⟩ m ⟨gm (aG h (m:Int)).mem (q:Int) c v,(el h.I m).U,(el h.I m).outs,(el h.I m).av⟩:=by
  have hl:=AT R.mem
  have bo:0<=(el (el h.I m).outer q).page/\(el (el h.I m).outer q).page<=11:=by
    rcases (R.gf m hm).slot aI with h1|h1
    · rw [h1] at bc;exact absurd rfl bc
    · exact h1.1
  obtain⟨P,vL⟩:=Int.eq_ofNat_of_zero_le bo.1
  rw [vL] at bo ⊢
  have Qk:P<h.mem.length:=by omega
  have ae3:iR (el h.mem P)=true:=by have:=Lv (p:=(P:Int)) R.mem;rw [yB (by omega),Int.toNat_natCast] at this;exact this
  rw [Vd Qk]
  have m1:Inv ⟨h.mem.set P (ts (el h.mem P) c v),h.I,h.buf,h.ar⟩:=⟨Td R.mem (Zj ae3 c v),R.uv,R.bd,R.fl,R.gf,R.inj,R.nF,R.bA,R.bt⟩
  have same:∀k i,k<h.I.length->i<8->¬(k=m/\i=q)->jD (h.mem.set P (ts (el h.mem P) c v)) (el h.I k) i=jD h.mem (el h.I k) i:=fun k i hk hi gD=>by
    unfold jD
    by_cases e:(el (el h.I k).outer i).page=-1
    · rw [if_pos e,if_pos e]
    · rw [if_neg e,if_neg e]
      refine T1 fun bt=>gD ?_
      obtain⟨a,b⟩:=R.uniq hk hi hm aI (by rw [bt,vL]) e
      exact⟨a,b⟩
  have here:jD (h.mem.set P (ts (el h.mem P) c v)) (el h.I m) q=ts (jD h.mem (el h.I m) q) c v:=by
    unfold jD
    rw [if_neg bc,if_neg bc,vL,yB (by rw [List.length_set];omega),yB (by omega),Int.toNat_natCast,fg Qk]
  refine⟨m1,rfl,?_,fun k hk gD=>?_⟩
  · rw [mr m1 hm,mr R hm]
    simp only
    rw [Vd (by simp;exact aI),GX _ _ _ aI,akl _ aI]
    congr 1
    refine List.map_congr_left fun i hi=>?_
    rw [List.mem_range] at hi
    split
    · rename_i e;subst e;exact here
    · rename_i e;exact same m i hm hi fun bt=>e bt.2
  · rw [mr m1 hk,mr R hk]
    simp only
    congr 1
    refine List.map_congr_left fun i hi=>?_
    rw [List.mem_range] at hi
    exact same k i hk hi fun bt=>gD bt.1
theorem OB {h:ad} (R:Inv h) {m q:Nat} (hm:m<h.I.length) (aI:q<8) (bc:¬(el (el h.I m).outer q).page=-1) (c:Int):gZ h.mem (el (el h.I m).outer q).page c=gZ (aG h (m:Int)).mem (q:Int) c:=by
  have hl:=AT R.mem
  have bo:0<=(el (el h.I m).outer q).page/\(el (el h.I m).outer q).page<=11:=by
    rcases (R.gf m hm).slot aI with h1|h1
    · rw [h1] at bc;exact absurd rfl bc
    · exact h1.1
  rw [mr R hm]
  unfold gZ
  simp only [Int.toNat_natCast,GX _ _ _ aI]
  have bA:jD h.mem (el h.I m) q=el h.mem (el (el h.I m).outer q).page.toNat:=by
    unfold jD;rw [if_neg bc,yB (by omega)]
  rw [bA]
  have bt:((List.range 8).map fun q=>jD h.mem (el h.I m) q).length=8:=by simp
  rw [bt]
  by_cases hc:0<=c/\c<(el h.mem (el (el h.I m).outer q).page.toNat).length
  · rw [if_pos ⟨⟨by omega,by omega⟩,hc⟩,if_pos ⟨⟨by omega,by omega⟩,hc⟩]
  · rw [if_neg (fun ah=>hc ah.2),if_neg (fun ah=>hc ah.2)]
end Go.Proofs.YtmeoackmjdoecaaGreat
namespace Go.Proofs.YtmeoackmjdoecaaGreat
open Go
set_option linter.unusedVariables false
set_option linter.unusedSimpArgs false
theorem gj.kh {h h1 ah:ad} {m:Nat} {bd fl:a9} (s:gj h h1 m bd) (t:gj h1 ah m fl):gj h ah m fl:=
  ⟨t.inv,t.len.trans s.len,t.Ej,fun k hk gD=>(t.uL k (by rw [s.len];exact hk) gD).trans (s.uL k hk gD)⟩
theorem gj.c {h h1:ad} {m:Nat} {b kX:a9} (s:gj h h1 m b) (e:b=kX):gj h h1 m kX:=e▸s
theorem BQ {h:ad} (R:Inv h) {m g:Nat} (hm:m<h.I.length) {y:az} (hl:g<(el h.I m).U.length->y.live=(el (el h.I m).U g).live):
    gj h (p8 h (m:Int) (g:Int) y) m ⟨(aG h (m:Int)).mem,(aG h (m:Int)).U.set g y,(aG h (m:Int)).outs,(aG h (m:Int)).av⟩:=by
  obtain⟨s1,s2,ja⟩:=pN hm
  have h1:=Mh R hm (gs:=(el h.I m).U.set g y) (os:=(el h.I m).outs) (pd:=(el h.I m).av) (ow:=(el h.I m).owned) List.length_set (fun j bJ=>by
    by_cases aJ:g<(el h.I m).U.length
    · rw [jJ _ _ _ _ aJ]
      split
      · rename_i e;subst e;exact hl aJ
      · rfl
    · rw [List.set_eq_of_length_le (by omega)]) (R.gf m hm).ow
  rw [s1,s2,ja]
  unfold p8
  rw [Int.toNat_natCast,Int.toNat_natCast]
  exact h1
theorem ale {h:ad} (R:Inv h) (e:dg h=true) {m g:Nat} (hm:m<h.I.length) (aJ:g<(el h.I m).U.length) (want:Int):
    gj h (xI h (m:Int) (g:Int) (el (el h.I m).U g) (want==4)) m (vv (aG h (m:Int)) (g:Int) (el (el h.I m).U g) want):=by
  obtain⟨s1,s2,ja⟩:=pN hm
  have RF:gB (want==4)=1\/gB (want==4)=2:=by unfold gB;split<;>omega
  unfold xI vv oj sd
  rw [Int.toNat_natCast]
  rcases Ko R e hm aJ (a7 (ch (el (el h.I m).U g))) RF false with⟨kQ,lu⟩|⟨kQ,q,aI,lu,g4⟩
  · rw [kQ,lu,if_pos rfl,if_pos rfl]
    exact BQ R hm fun _=>rfl
  · rw [kQ,lu,g4.ok,if_neg (show ¬(true=false) by simp),if_neg (show ¬(true=false) by simp)]
    generalize bk h (m:Int) (g:Int) (a7 (ch (el (el h.I m).U g))) (gB (want==4)) false=r at g4
    have FK:=g4.jN.1
    have rp:m<r.1.I.length:=by rw [g4.jN.2.len];exact hm
    have RE:¬(el (el r.1.I m).outer q).page=-1:=by rw [←g4.at_];exact g4.ne
    have vT:=g4.jN.2.gs m hm
    have Jq:=yS R g4.jN hm
    obtain⟨t1,t2,t3⟩:=pN rp
    by_cases b2:want=4
    · rw [if_pos (by rw [b2];rfl),if_pos b2]
      have jY:=Mg FK rp aI RE (dK (ch (el (el h.I m).U g))) (el (el h.I m).U g).acc
      rw [←g4.at_] at jY
      have m4:=BQ jY.inv (h:=⟨gm r.1.mem r.2.1 (dK (ch (el (el h.I m).U g))) (el (el h.I m).U g).acc,r.1.I,r.1.buf,r.1.ar⟩) (m:=m) (g:=g) rp (y:=cj (el (el h.I m).U g)) (fun _=>by show(el (el h.I m).U g).live=(el (el r.1.I m).U g).live;rw [vT])
      rw [jY.Ej] at m4
      refine((f_.BP R g4.jN (jY.kh m4))).c ?_
      rw [Jq,←t1,←t2,←t3,Jq]
    · rw [if_neg (by simp [b2]),if_neg b2]
      have m4:=BQ FK (m:=m) (g:=g) rp (y:=k0 (el (el h.I m).U g) (gZ r.1.mem r.2.1 (dK (ch (el (el h.I m).U g))))) (fun _=>by rw [agi,vT])
      refine(f_.BP R g4.jN m4).c ?_
      rw [g4.at_,OB FK rp aI RE,Jq]
theorem alf {h:ad} (R:Inv h) {m g:Nat} (hm:m<h.I.length) (aJ:g<(el h.I m).U.length) (want:Int):
    gj h (zS h (m:Int) (kG (el h.I m) (g:Int) (el (el h.I m).U g) want)) m ⟨(l6 (aG h (m:Int)) (el (el h.I m).U g) want).mem,(l6 (aG h (m:Int)) (el (el h.I m).U g) want).U.set g (jt (el (el h.I m).U g) (el (el h.I m).U g).bH.bQ want).1,(l6 (aG h (m:Int)) (el (el h.I m).U g) want).outs,(l6 (aG h (m:Int)) (el (el h.I m).U g) want).av⟩:=by
  obtain⟨s1,s2,ja⟩:=pN hm
  have aeZ:aS (o7 (el h.I m) (el (el h.I m).U g) want) 0 1000000000=true:=by
    have h1:=cM (R.gf m hm).ow
    unfold o7 aS
    simp only [Bool.and_eq_true,decide_eq_true_eq]
    split<;>omega
  have h1:=Mh R hm (gs:=(el h.I m).U.set g (jt (el (el h.I m).U g) (el (el h.I m).U g).bH.bQ want).1) (os:=vx (el h.I m) (el (el h.I m).U g) want) (pd:=(el h.I m).av) (ow:=o7 (el h.I m) (el (el h.I m).U g) want) List.length_set (fun j bJ=>by
    rw [jJ _ _ _ _ aJ]
    split
    · rename_i e;subst e;exact agl _ _ _
    · rfl) aeZ
  unfold zS kG
  rw [Int.toNat_natCast,Int.toNat_natCast]
  refine h1.c ?_
  unfold l6 vx mN
  rw [s2]
  by_cases hc:(jt (el (el h.I m).U g) (el (el h.I m).U g).bH.bQ want).2=true/\want=5
  · rw [if_pos hc]
    by_cases hl:(el h.I m).outs.length<40
    · rw [if_pos ⟨hc,hl⟩,if_pos hl,←s1,ja]
    · rw [if_neg (fun ah=>hl ah.2),if_neg hl,←s1,s2,ja]
  · rw [if_neg (fun ah=>hc ah.1),if_neg hc,←s1,s2,ja]
theorem WT {h:ad} (R:Inv h) (e:dg h=true) {m:Nat} (hm:m<h.I.length) (g:Int):gj h (ix h (m:Int) g).1 m (ig (aG h (m:Int)) g).1/\(ix h (m:Int) g).2=(ig (aG h (m:Int)) g).2:=by
  obtain⟨s1,s2,ja⟩:=pN hm
  have hb:hK (aG h (m:Int))=true:=BJ e ⟨by omega,by omega⟩
  by_cases aJ:0<=g/\g<(el h.I m).U.length
  · obtain⟨k,rfl⟩:=Int.eq_ofNat_of_zero_le aJ.1
    have hk:k<(el h.I m).U.length:=by omega
    by_cases hw:b6 (el (el h.I m).U k)=0
    · rw [vY (.inr (by simp only [Int.toNat_natCast];exact hw))]
      unfold ig
      rw [if_neg (fun ah=>ah.2.2 (by rw [s1,Int.toNat_natCast];exact hw))]
      exact⟨gj.h3 R m,rfl⟩
    · rw [RK (alb e ⟨by omega,by omega⟩ (by simp only [Int.toNat_natCast];exact aJ)) (by simp only [Int.toNat_natCast];exact hw)]
      unfold ig
      rw [if_pos ⟨hb,by rw [s1];exact aJ,by rw [s1,Int.toNat_natCast];exact hw⟩]
      refine⟨?_,rfl⟩
      simp only [Int.toNat_natCast,s1]
      generalize b6 (el (el h.I m).U k)=want
      unfold r_ mD
      rw [Int.toNat_natCast]
      by_cases h1:want=1
      · rw [if_pos h1,if_pos h1]
        exact BQ R hm fun _=>agh _
      · rw [if_neg h1,if_neg h1]
        by_cases ah:want=2
        · rw [if_pos ah,if_pos ah]
          exact BQ R hm fun _=>agk _
        · rw [if_neg ah,if_neg ah]
          by_cases aE:want=3\/want=4
          · rw [if_pos aE,if_pos aE]
            exact ale R e hm hk want
          · rw [if_neg aE,if_neg aE,Int.toNat_natCast]
            exact alf R hm hk want
  · rw [vY (.inl ?_)]
    · unfold ig
      rw [if_neg (fun ah=>aJ (by rw [←s1];exact ah.2.1))]
      exact⟨gj.h3 R m,rfl⟩
    · cases hx:nf h (m:Int) g with
      |false=>rfl
      |true=>have:=(BO hx).2.2;rw [Int.toNat_natCast] at this;exact absurd this aJ
theorem alP (t:List aA) (p:Int) (s:aA):(dF t p s).length=t.length:=by
  unfold dF
  split
  · exact List.length_set
  · rfl
theorem Ve {t:List aA} {p:Int} {s:aA} {j:Nat} (h:¬(j:Int)=p):el (dF t p s) j=el t j:=by
  unfold dF
  split
  · exact lB (by omega)
  · rfl
theorem WO {h:ad} (R:Inv h) (e:dg h=true) {m:Nat} (hm:m<h.I.length) (g page:Int):gj h (kD h (m:Int) g page).1 m (cV (aG h (m:Int)) g page).1/\(kD h (m:Int) g page).2=(cV (aG h (m:Int)) g page).2:=by
  obtain⟨s1,s2,ja⟩:=pN hm
  have O:=R.gf m hm
  unfold kD cV cd
  by_cases hc:hK (aG h (m:Int))=true/\(0<=g/\g<(aG h (m:Int)).U.length)/\aS page 0 3=true
  · simp only [if_pos hc]
    have bo:bP h (m:Int) (⟨(aG h (m:Int)).mem,(aG h (m:Int)).U.set g.toNat {el (aG h (m:Int)).U g.toNat with live:=dF (el (aG h (m:Int)).U g.toNat).live page (dw (el (aG h (m:Int)).U g.toNat).written page)},(aG h (m:Int)).outs,(aG h (m:Int)).av⟩,true)=
        (mC h (m:Int) ⟨(aG h (m:Int)).mem,(aG h (m:Int)).U.set g.toNat {el (aG h (m:Int)).U g.toNat with live:=dF (el (aG h (m:Int)).U g.toNat).live page (dw (el (aG h (m:Int)).U g.toNat).written page)},(aG h (m:Int)).outs,(aG h (m:Int)).av⟩,true):=if_pos ⟨⟨e,by omega,by omega⟩,rfl⟩
    rw [bo,if_pos rfl]
    refine⟨?_,rfl⟩
    have aJ:=hc.2.1
    rw [s1] at aJ
    obtain⟨k,rfl⟩:=Int.eq_ofNat_of_zero_le aJ.1
    have hk:k<(el h.I m).U.length:=by omega
    rw [s1,ja]
    unfold C7 mC
    simp only [Int.toNat_natCast,fg hm,List.set_set]
    obtain⟨x,hx⟩:∃x:az,x={el (el h.I m).U k with live:=dF (el (el h.I m).U k).live page (dw (el (el h.I m).U k).written page)}:=⟨_,rfl⟩
    rw [←hx]
    have JC:x.live=dF (el (el h.I m).U k).live page (dw (el (el h.I m).U k).written page):=by rw [hx]
    have Dq:∀(b:List a0),(∀e,e∈b->mv h.I e)->∀e,e∈ds b (cq (m:Int) (k:Int)) page->mv (h.I.set m {el h.I m with U:=(el h.I m).U.set k x,av:=(el h.I m).av,tables:=(el h.I m).tables.set k (gL (el (el h.I m).tables k) page)}) e:=fun b hb e he=>by
      obtain⟨Kv,Kw⟩:=Ha he
      refine(hb e Kv).set hm fun j e4 dO g8 rY _=>⟨by simp only [List.length_set];exact e4,?_⟩
      simp only
      rw [jJ _ _ _ _ hk]
      split
      · rename_i bA;subst bA
        rw [JC,Ve (fun bt=>Kw ⟨dO,by omega⟩)]
        exact rY
      · exact rY
    have m1:Inv ⟨h.mem,h.I.set m {el h.I m with U:=(el h.I m).U.set k x,av:=(el h.I m).av,tables:=(el h.I m).tables.set k (gL (el (el h.I m).tables k) page)},ds h.buf (cq (m:Int) (k:Int)) page,ds h.ar (cq (m:Int) (k:Int)) page⟩:=by
      refine R.uZ hm R.mem ⟨by simp only [List.length_set];exact O.pb,by simp only [List.length_set];exact O.hQ,O.rE,O.ol,O.dl,O.kh,O.ow,O.nA⟩ (fun p a b=>Nat.le_trans (Nat.le_of_eq (Ln hm rfl)) (R.inj p a b)) (fun j bJ=>?_) (zo List.filter_sublist R.bd) (zo List.filter_sublist R.fl) (Dq _ R.bA) (Dq _ R.bt)
      simp only [List.length_set] at bJ ⊢
      rw [jJ _ _ _ _ (by rw [O.hQ];exact hk),jJ _ _ _ _ hk]
      split
      · rename_i bA;subst bA
        have T:=R.nF m hm j bJ
        obtain⟨e4,dO,g8⟩:=zW [page] (el (el h.I m).tables j) T.yv T.b8
        refine⟨by rw [JC,alP];exact T.sF,e4,dO,fun p a2 aaL=>?_⟩
        obtain⟨bd,fl,jX⟩:=g8 p a2 aaL
        have W1:el (gL (el (el h.I m).tables j) page).bN p=el (el (el h.I m).tables j).bN p:=fl
        rw [W1,T.eq p a2 bd,JC,Ve (fun bt=>jX (by rw [bt];exact List.mem_singleton.2 rfl))]
      · exact R.nF m hm j bJ
    refine⟨m1,by simp only [List.length_set],?_,fun j bJ gD=>?_⟩
    · rw [mr m1 (by simp only [List.length_set];exact hm),mr R hm]
      simp only [fg hm]
      rfl
    · rw [mr m1 (by simp only [List.length_set];exact bJ),mr R bJ]
      simp only
      rw [jJ _ _ _ _ hm,if_neg gD]
  · simp only [if_neg hc]
    have bo:(bP h (m:Int) (aG h (m:Int),false))=(h,false):=if_neg (by rintro⟨_,ah⟩;cases ah)
    rw [bo,if_neg (by simp)]
    exact⟨gj.h3 R m,rfl⟩
theorem WR {h:ad} (R:Inv h) (e:dg h=true) {m:Nat} (hm:m<h.I.length) (page cell v:Int):gj h (kZ h (m:Int) page cell v).1 m (ew (aG h (m:Int)) page cell v).1/\(kZ h (m:Int) page cell v).2=(ew (aG h (m:Int)) page cell v).2:=by
  have hb:hK (aG h (m:Int))=true:=BJ e ⟨by omega,by omega⟩
  unfold kZ ew
  by_cases a2:nc h (m:Int) page cell v=true
  · rw [if_pos a2]
    have sv:=a2
    unfold nc at sv
    simp only [Bool.and_eq_true] at sv
    obtain⟨_,a,q,xB,aaN,bR,aI⟩:=Dn sv.1.1
    obtain rfl:m=a:=by omega
    subst aaN
    have hc:=cM sv.1.2
    rw [if_pos ⟨hb,⟨by omega,by omega⟩,⟨by omega,by omega⟩,sv.2⟩]
    refine⟨?_,rfl⟩
    obtain⟨cH,nv,_⟩:=SM R e hm aI 2
    generalize gA h (m:Int) (q:Int) 2=z at cH nv
    have vW:m<z.I.length:=by rw [cH.2.len];exact hm
    have jY:=Mg cH.1 vW aI nv cell v
    simp only [Int.toNat_natCast]
    refine(f_.BP R cH jY).c ?_
    obtain⟨t1,t2,t3⟩:=pN vW
    rw [←t1,←t2,←t3,yS R cH hm]
  · rw [if_neg a2,if_neg]
    · exact⟨gj.h3 R m,rfl⟩
    · rintro⟨_,h1,ah,aE⟩
      apply a2
      unfold nc eF
      rw [aE,Ke ⟨e,by omega,by omega⟩]
      unfold aS
      simp only [Bool.and_eq_true,Bool.true_and,Bool.and_true,decide_eq_true_eq]
      omega
theorem NJ {h:ad} (e:dg h=true) {m:Nat} (hm:m<h.I.length) (g addr need:Int) (bR:aS addr 0 15=true):
    q0 (aG h (m:Int)) g addr need=if 0<=g/\g<(el h.I m).U.length then c6 (el (el h.I m).U g.toNat).live (a7 addr) need else(-1,false):=by
  obtain⟨s1,s2,ja⟩:=pN hm
  have hb:hK (aG h (m:Int))=true:=BJ e ⟨by omega,by omega⟩
  unfold q0 G6
  rw [hb,s1,bR]
  simp only [Bool.true_and,and_true]
  by_cases aJ:0<=g/\g<(el h.I m).U.length
  · rw [if_pos aJ,if_pos (by unfold aS;simp only [Bool.and_eq_true,decide_eq_true_eq];omega)]
  · rw [if_neg aJ,if_neg (fun ah=>aJ (by have:=cM ah;omega))]
theorem NK (b:a9) (g addr need:Int) (bR:aS addr 0 15=false):q0 b g addr need=(-1,false):=by
  unfold q0;rw [if_neg (fun ah=>by rw [bR] at ah;exact absurd ah.2 (by simp))]
theorem S8 {h:ad} {m:Nat} {g page need:Int} {io:Bool} (aJ:¬(0<=g/\g<(el h.I m).U.length)):bk h (m:Int) g page need io=(h,-1,false):=by
  refine AP ?_
  unfold p4
  rw [Int.toNat_natCast,decide_eq_false aJ]
  simp
theorem WN {h:ad} (R:Inv h) (e:dg h=true) {m:Nat} (hm:m<h.I.length) (g addr v:Int):gj h (kC h (m:Int) g addr v).1 m (C4 (aG h (m:Int)) g addr v).1/\(kC h (m:Int) g addr v).2=(C4 (aG h (m:Int)) g addr v).2:=by
  unfold kC C4
  cases bR:aS addr 0 15 with
  |false=>
    rw [if_neg (fun ah=>absurd ah.1.1 (by simp)),NK _ _ _ _ bR,if_neg (fun ah=>absurd ah.1 (by simp))]
    exact⟨gj.h3 R m,rfl⟩
  |true=>
    rw [NJ e hm g addr 2 bR]
    by_cases aJ:0<=g/\g<(el h.I m).U.length
    · rw [if_pos aJ]
      obtain⟨k,rfl⟩:=Int.eq_ofNat_of_zero_le aJ.1
      rw [Int.toNat_natCast]
      rcases Ko R e hm (g:=k) (by omega) (a7 addr) (.inr rfl) true with⟨kQ,lu⟩|⟨kQ,q,aI,lu,g4⟩
      · rw [lu,kQ,if_neg (fun ah=>absurd ah.2 (by simp)),if_neg (fun ah=>absurd ah.1 (by simp))]
        exact⟨gj.h3 R m,rfl⟩
      · rw [kQ,lu]
        generalize bk h (m:Int) (k:Int) (a7 addr) 2 true=r at g4
        rw [g4.ok]
        by_cases bu:aS v 0 99=true
        · rw [if_pos ⟨⟨rfl,bu⟩,rfl⟩,if_pos ⟨rfl,bu⟩]
          refine⟨?_,rfl⟩
          have rp:m<r.1.I.length:=by rw [g4.jN.2.len];exact hm
          have jY:=Mg g4.jN.1 rp aI (by rw [←g4.at_];exact g4.ne) (dK addr) v
          rw [←g4.at_] at jY
          obtain⟨t1,t2,t3⟩:=pN rp
          refine(f_.BP R g4.jN jY).c ?_
          rw [←t1,←t2,←t3,yS R g4.jN hm]
        · rw [if_neg (fun ah=>bu ah.1.2),if_neg (fun ah=>bu ah.2)]
          exact⟨gj.h3 R m,rfl⟩
    · rw [if_neg aJ,S8 aJ,if_neg (fun ah=>absurd ah.2 (by simp)),if_neg (fun ah=>absurd ah.1 (by simp))]
      exact⟨gj.h3 R m,rfl⟩
def xR (b:a9) (g addr:Int):Int×Bool:=if(q0 b g addr 1).2=true then(gZ b.mem (q0 b g addr 1).1 (dK addr),true) else(0,false)
theorem WS {h:ad} (R:Inv h) (e:dg h=true) {m:Nat} (hm:m<h.I.length) (g addr:Int):gj h (hE h (m:Int) g addr).1 m (aG h (m:Int))/\(hE h (m:Int) g addr).2=xR (aG h (m:Int)) g addr:=by
  unfold hE xR
  cases bR:aS addr 0 15 with
  |false=>
    rw [if_neg (fun ah=>absurd ah.1 (by simp)),NK _ _ _ _ bR,if_neg (by simp)]
    exact⟨gj.h3 R m,rfl⟩
  |true=>
    rw [NJ e hm g addr 1 bR]
    by_cases aJ:0<=g/\g<(el h.I m).U.length
    · rw [if_pos aJ]
      obtain⟨k,rfl⟩:=Int.eq_ofNat_of_zero_le aJ.1
      rw [Int.toNat_natCast]
      rcases Ko R e hm (g:=k) (by omega) (a7 addr) (.inl rfl) true with⟨kQ,lu⟩|⟨kQ,q,aI,lu,g4⟩
      · rw [lu,kQ,if_neg (fun ah=>absurd ah.2 (by simp)),if_neg (by simp)]
        exact⟨gj.h3 R m,rfl⟩
      · rw [kQ,lu]
        generalize bk h (m:Int) (k:Int) (a7 addr) 1 true=r at g4
        rw [g4.ok,if_pos ⟨rfl,rfl⟩,if_pos rfl]
        have rp:m<r.1.I.length:=by rw [g4.jN.2.len];exact hm
        refine⟨(f_.BP R g4.jN (gj.h3 g4.jN.1 m)).c (yS R g4.jN hm),?_⟩
        have ah:=OB g4.jN.1 rp aI (by rw [←g4.at_];exact g4.ne) (dK addr)
        rw [←g4.at_,yS R g4.jN hm] at ah
        simp only
        rw [ah]
    · rw [if_neg aJ,S8 aJ,if_neg (fun ah=>absurd ah.2 (by simp)),if_neg (by simp)]
      exact⟨gj.h3 R m,rfl⟩
end Go.Proofs.YtmeoackmjdoecaaGreat
namespace Go.Proofs.YtmeoackmjdoecaaGreat
open Go
set_option linter.unusedVariables false
set_option linter.unusedSimpArgs false
def o_ (p:a9×Bool):a9×da:=(p.1,⟨p.2,0⟩)
def PN (b:a9) (a:bV):a9×da:=
  if a.kind=1 then o_ (ig b a.g)
  else if a.kind=2 then o_ (jd b a.g a.x ⟨a.y,a.z⟩)
  else if a.kind=3 then o_ (cV b a.g a.x)
  else if a.kind=4 then o_ (jZ b a.g a.x)
  else if a.kind=5 then o_ (j0 b a.g)
  else if a.kind=6 then o_ (jL b a.g a.x)
  else if a.kind=7 then o_ (jK b a.g (ih a))
  else if a.kind=8 then o_ (ew b a.x a.y a.z)
  else if a.kind=9 then o_ (iM b a.x)
  else if a.kind=10 then((er b).1,⟨(er b).2,(iL b).2.1⟩)
  else if a.kind=11 then o_ (C4 b a.g a.x a.y)
  else(b,⟨(xR b a.g a.x).2,(xR b a.g a.x).1⟩)
def MW (h:ad) (m:Nat) (r:ad×da) (z:a9×da):Prop:=gj h r.1 m z.1/\r.2=z.2
theorem qQ {h:ad} {m:Nat} {r:ad×Bool} {z:a9×Bool} (s:gj h r.1 m z.1/\r.2=z.2):MW h m (h8 r) (o_ z):=⟨s.1,by unfold h8 o_;rw [s.2]⟩
theorem NC {h:ad} (R:Inv h) (e:dg h=true) {m:Nat} (hm:m<h.I.length) {a:bV} (bR:a.m=(m:Int)) (hk:1<=a.kind/\a.kind<=12):MW h m (ei h a) (PN (aG h (m:Int)) a):=by
  have kI:a.kind=1\/a.kind=2\/a.kind=3\/a.kind=4\/a.kind=5\/a.kind=6\/a.kind=7\/a.kind=8\/a.kind=9\/a.kind=10\/a.kind=11\/a.kind=12:=by omega
  unfold PN
  rcases kI with k|k|k|k|k|k|k|k|k|k|k|k
  · rw [H6 k,k,bR];exact qQ (WT R e hm _)
  · rw [H_ k,k,bR];exact qQ (wI R e hm (agv _ _ _ _))
  · rw [Ia k,k,bR];exact qQ (WO R e hm _ _)
  · rw [Ib k,k,bR];exact qQ (wI R e hm (agq _ _ _))
  · rw [Ic k,k,bR];exact qQ (wI R e hm (agu _ _))
  · rw [Ie k,k,bR];exact qQ (wI R e hm (ags _ _ _))
  · rw [Ig k,k,bR];exact qQ (wI R e hm (agr _ _ _))
  · rw [Ih k,k,bR];exact qQ (WR R e hm _ _ _)
  · rw [Ii k,k,bR];exact qQ (wI R e hm (agt _ _))
  · rw [H7 k,k,bR]
    have h1:=wI R e hm (agp (aG h (m:Int)))
    refine⟨h1.1,?_⟩
    show(⟨(bP h (m:Int) (er (aG h (m:Int)))).2,o5 h (m:Int) (-1)⟩:da)=⟨(er (aG h (m:Int))).2,(iL (aG h (m:Int))).2.1⟩
    rw [h1.2,show o5 h (m:Int) (-1)=(iL (aG h (m:Int))).2.1 from if_pos ⟨e,by omega,by omega⟩]
  · rw [H8 k,k,bR];exact qQ (WN R e hm _ _ _)
  · rw [H9 k,k,bR]
    have h1:=WS R e hm a.g a.x
    refine⟨h1.1,?_⟩
    show(⟨(hE h (m:Int) a.g a.x).2.2,(hE h (m:Int) a.g a.x).2.1⟩:da)=⟨(xR (aG h (m:Int)) a.g a.x).2,(xR (aG h (m:Int)) a.g a.x).1⟩
    rw [h1.2]
theorem uT {h:ad} {m:Int} {r:a9×Bool} (bc:¬(dg h=true/\0<=m/\m<h.I.length)):bP h m r=(h,false):=if_neg fun ah=>bc ah.1
theorem S9 {h:ad} {m g page need:Int} {io:Bool} (bc:¬(dg h=true/\0<=m/\m<h.I.length)):bk h m g page need io=(h,-1,false):=by
  refine AP ?_
  cases hx:p4 h m g page need with
  |false=>rfl
  |true=>
    unfold p4 at hx
    simp only [Bool.and_eq_true,decide_eq_true_eq] at hx
    exact absurd ⟨hx.1.1.1.1,hx.1.1.1.2⟩ bc
theorem ND {h:ad} {a:bV} (bc:¬(dg h=true/\0<=a.m/\a.m<h.I.length)) (hk:1<=a.kind/\a.kind<=12):ei h a=(h,⟨false,if a.kind=10 then-1 else 0⟩):=by
  have kI:a.kind=1\/a.kind=2\/a.kind=3\/a.kind=4\/a.kind=5\/a.kind=6\/a.kind=7\/a.kind=8\/a.kind=9\/a.kind=10\/a.kind=11\/a.kind=12:=by omega
  rcases kI with k|k|k|k|k|k|k|k|k|k|k|k
  · rw [H6 k,k,vY (.inl ?_)]; · rfl
    cases hx:nf h a.m a.g with
    |false=>rfl
    |true=>exact absurd ⟨(BO hx).1,(BO hx).2.1⟩ bc
  · rw [H_ k,k];unfold mK;rw [uT bc];rfl
  · rw [Ia k,k];unfold kD;rw [uT bc];rfl
  · rw [Ib k,k];unfold mG;rw [uT bc];rfl
  · rw [Ic k,k];unfold mJ;rw [uT bc];rfl
  · rw [Ie k,k];unfold mH;rw [uT bc];rfl
  · rw [Ig k,k];unfold iO;rw [uT bc];rfl
  · rw [Ih k,k,RJ]
    · rfl
    · cases hx:nc h a.m a.x a.y a.z with
      |false=>rfl
      |true=>exact absurd ⟨rl (yH hx).1,(yH hx).2.1⟩ bc
  · rw [Ii k,k];unfold mI;rw [uT bc];rfl
  · rw [H7 k,k];unfold h6 o5;rw [uT bc,if_neg bc];rfl
  · rw [H8 k,k,zO (.inr (.inr (by rw [S9 bc])))];rfl
  · rw [H9 k,k,ET (.inr (by rw [S9 bc]))];rfl
theorem WQ {h:ad} (R:Inv h) {a:bV} (hk:13<=a.kind/\a.kind<=17):f_ h (ei h a).1:=by
  have kI:a.kind=13\/a.kind=14\/a.kind=15\/a.kind=16\/a.kind=17:=by omega
  rcases kI with k|k|k|k|k
  · rw [QC k];exact afK R _ _
  · rw [QD k];exact afJ R _ _
  · rw [QE k];exact afH R _ _
  · rw [QF k];exact afN R _ _
  · rw [QG k];exact afF R
structure Rel (h h':ad):Prop where
  i1:Inv h
  i2:Inv h'
  BI:js h'=js h
theorem Rel.len {h h':ad} (bF:Rel h h'):h'.I.length=h.I.length:=by rw [←yT,bF.BI,yT]
theorem Rel.at_ {h h':ad} (bF:Rel h h') {m:Nat} (hm:m<h.I.length):aG h' (m:Int)=aG h (m:Int):=by
  rw [←EZ hm,←bF.BI,EZ (by rw [bF.len];exact hm)]
theorem Rel.ok {h h':ad} (bF:Rel h h'):dg h'=dg h:=by
  rw [Bool.eq_iff_iff,bF.i1.ok,bF.i2.ok,bF.len]
  refine and_congr_right fun _=>forall_congr' fun m=>forall_congr' fun hm=>?_
  obtain⟨e4,dO,g8⟩:=pN hm
  obtain⟨bd,fl,jX⟩:=pN (h:=h') (m:=m) (by rw [bF.len];exact hm)
  rw [bF.at_ hm] at bd fl jX
  unfold zg
  rw [←e4,←dO,←g8,←bd,←fl,←jX]
theorem gj.all {h h1:ad} {m:Nat} {b:a9} (s:gj h h1 m b):js h1=(js h).set m b:=by
  apply List.ext_getElem
  · rw [List.length_set,yT,yT,s.len]
  · intro i z3 vC
    rw [List.length_set,yT] at vC
    rw [←hJ z3,EZ (by rw [s.len];exact vC),List.getElem_set]
    by_cases e:m=i
    · rw [if_pos e,←e,s.Ej]
    · rw [if_neg e,s.uL i vC (fun bt=>e bt.symm),←hJ (by rw [yT];exact vC),EZ vC]
theorem akp {h h':ad} (bF:Rel h h') {a:bV} (hk:mL a.kind=false):Rel (ei h a).1 (ei h' a).1/\(ei h' a).2=(ei h a).2:=by
  have apA:=dC (show aS a.kind 13 17=false from hk)
  by_cases kI:1<=a.kind/\a.kind<=12
  · by_cases bc:dg h=true/\0<=a.m/\a.m<h.I.length
    · obtain⟨m,hm⟩:=Int.eq_ofNat_of_zero_le bc.2.1
      have t_:m<h.I.length:=by omega
      have A:=NC bF.i1 bc.1 t_ hm kI
      have B:=NC bF.i2 (by rw [bF.ok];exact bc.1) (m:=m) (by rw [bF.len];exact t_) hm kI
      rw [bF.at_ t_] at B
      exact⟨⟨A.1.inv,B.1.inv,by rw [A.1.all,B.1.all,bF.BI]⟩,B.2.trans A.2.symm⟩
    · rw [ND bc kI,ND (by rw [bF.ok,bF.len];exact bc) kI]
      exact⟨bF,rfl⟩
  · rw [H5 (by omega),H5 (by omega)]
    exact⟨bF,rfl⟩
theorem akq {h h':ad} (bF:Rel h h') {a:bV} (hk:mL a.kind=true):Rel (ei h a).1 h':=by
  have k:=WQ bF.i1 (adY hk)
  exact⟨k.1,bF.i2,by rw [bF.BI,k.2.seen bF.i1 k.1]⟩
def iz:List bV->ad->ad×List da
  |[],h=>(h,[])
  |a::r,h=>((iz r (ei h a).1).1,(ei h a).2::(iz r (ei h a).1).2)
theorem LY:∀(l:List bV) {h h':ad},Rel h h'->Rel (iz l h).1 (iz (k1 l) h').1/\ko l (iz l h).2=(iz (k1 l) h').2/\(iz l h).2.length=l.length
  |
    [],h,h',bF=>⟨bF,rfl,rfl⟩
  |a::r,h,h',bF=>by
    cases hk:mL a.kind with
    |true=>
      obtain⟨e4,dO,g8⟩:=LY r (akq bF hk)
      have bA:k1 (a::r)=k1 r:=by unfold k1;rw [List.filter_cons_of_neg (by simp [hk])]
      rw [bA]
      refine⟨e4,?_,by simp [iz,g8]⟩
      show ko (a::r) (_::_)=_
      unfold ko
      rw [List.zip_cons_cons,List.filter_cons_of_neg (by simp [hk])]
      exact dO
    |false=>
      obtain⟨bd,fl⟩:=akp bF hk
      obtain⟨e4,dO,g8⟩:=LY r bd
      have bA:k1 (a::r)=a::k1 r:=by unfold k1;rw [List.filter_cons_of_pos (by simp [hk])]
      rw [bA]
      refine⟨e4,?_,by simp [iz,g8]⟩
      show ko (a::r) (_::_)=_::_
      unfold ko
      rw [List.zip_cons_cons,List.filter_cons_of_pos (by simp [hk]),List.map_cons,fl]
      exact congrArg _ dO
theorem aiZ:iR (List.replicate 4 0)=true:=by decide
theorem agE (dz:List (List cE)):kz (l7 dz):=by
  have aJ:((dz.take 2).map o6).length<=2:=by rw [List.length_map,List.length_take];omega
  refine⟨aJ,by simp [l7],by simp only [l7];decide,by simp [l7],by simp [l7],by simp only [l7];decide,by simp only [l7];decide,fun i hi=>?_⟩
  unfold nb l7
  simp only
  rw [hJ (by rw [List.length_replicate];exact hi),List.getElem_replicate,if_pos rfl,hJ (by rw [List.length_replicate];exact hi),List.getElem_replicate]
  exact aiZ
theorem RH (all:List (List (List cE))):Inv (j2 all):=by
  have hl:(j2 all).I.length<=3:=by simp only [j2,List.length_map,List.length_take];omega
  have ks:∀m,m<(j2 all).I.length->el (j2 all).I m=l7 (el (all.take 3) m):=fun m hm=>zQ (by simpa [j2] using hm)
  refine⟨?_,hl,rfl,rfl,fun m hm=>by rw [ks m hm];exact agE _,fun p h1 ah=>?_,fun m hm g aJ=>?_,fun e he=>absurd he (by simp [j2]),fun e he=>absurd he (by simp [j2])⟩
  · simp only [j2];decide
  · refine Decidable.byContradiction fun bc=>?_
    obtain⟨m,e4,dO⟩:=Ll (p:=p) (l:=(j2 all).I) (by omega)
    obtain⟨k,g8,rY⟩:=L9 dO
    rw [ks m e4] at g8 rY
    have WM:k<(List.replicate 8 (⟨-1,0⟩:aA)).length:=g8
    have NB:(el (List.replicate 8 (⟨-1,0⟩:aA)) k).page=p:=rY
    rw [hJ WM,List.getElem_replicate] at NB
    simp only at NB
    omega
  · rw [ks m hm] at aJ ⊢
    generalize el (all.take 3) m=dz at aJ ⊢
    have nR:g<(dz.take 2).length:=by simpa [l7] using aJ
    show nL (el ((dz.take 2).map fun _=>q5 4) g) (el ((dz.take 2).map o6) g).live _
    rw [zQ nR,zQ nR]
    refine⟨by simp [o6],by decide,by decide,fun p a2 e=>?_⟩
    have b2:∀p,p<4->el (q5 4).known p=false:=by decide
    rw [b2 p a2] at e;cases e
theorem WV (all:List (List (List cE))) (l:List bV):sc (iz l (j2 all)).1 (iz (k1 l) (j2 all)).1=true/\ko l (iz l (j2 all)).2=(iz (k1 l) (j2 all)).2/\(iz l (j2 all)).2.length=l.length:=by
  obtain⟨e4,dO,g8⟩:=LY l (h:=j2 all) (h':=j2 all) ⟨RH all,RH all,rfl⟩
  exact⟨by unfold sc xH;exact decide_eq_true e4.BI.symm,dO,g8⟩
end Go.Proofs.YtmeoackmjdoecaaGreat
namespace Go.Proofs.YtmeoackmjdoecaaGreat
open Go
set_option linter.unusedVariables false
set_option linter.unusedSimpArgs false
theorem UC:∀(l r:List bV) (h:ad),iz (l++r) h=((iz r (iz l h).1).1,(iz l h).2++(iz r (iz l h).1).2)
  |
    [],r,h=>rfl
  |a::l,r,h=>by
    show((iz (l++r) (ei h a).1).1,(ei h a).2::(iz (l++r) (ei h a).1).2)=_
    rw [UC l r]
    rfl
theorem akG {l:List bV} {h Y:ad} {k:Nat} {acc:List da} (hk:k<l.length) (h1:(Y,acc)=iz (l.take k) h):((ei Y (el l k)).1,acc++[(ei Y (el l k)).2])=iz (l.take (k+1)) h:=by
  rw [iH hk,UC,←h1]
  rfl
theorem UF {l:List bV} {h Y:ad} {k:Nat} {acc:List da} (hk:l.length<=k) (h1:(Y,acc)=iz (l.take k) h):iz l h=(Y,acc):=by
  rw [fj hk] at h1;exact h1.symm
theorem U2 {l:List bV}:l.take 80=l.take (min l.length 80):=by
  by_cases h:l.length<=80
  · rw [List.take_of_length_le h,List.take_of_length_le (by omega)]
  · rw [show min l.length 80=80 by omega]
def p2 (all:List (List (List cE))) (fy:List bV):ad×List da:=iz (fy.take 80) (j2 all)
theorem age {all:List (List (List cE))} {l:List bV} (hl:l.length<=80) {x y:ad×List da} (h1:x=p2 all l) (ah:y=p2 all (k1 l)):sc x.1 y.1=true/\ko l x.2=y.2/\x.2.length=l.length:=by
  have hu:(k1 l).length<=80:=Nat.le_trans (List.length_filter_le _ _) hl
  subst h1 ah
  unfold p2
  rw [List.take_of_length_le hl,List.take_of_length_le hu]
  exact WV all l
def G5 (i:Nat):List bV:=[⟨2,(i / 6:Nat),(i / 3 % 2:Nat),(i % 3:Nat),(i % 3+3*(i / 3 % 2):Nat),3⟩,⟨3,(i / 6:Nat),(i / 3 % 2:Nat),(i % 3:Nat),0,0⟩]
def oe:Nat->List bV
  |0=>[]
  |n+1=>oe n++G5 n
theorem xc:∀n,(oe n).length=2*n
  |0=>rfl
  |n+1=>by unfold oe;rw [List.length_append,xc n];rfl
theorem Xe {l:List bV} {m g p:Nat} (h:l=oe (6*m+3*g+p)) (a2:p<3) (aJ:g<2) (hm:m<2):l++[⟨2,(m:Int),(g:Int),(p:Int),(p:Int)+3*(g:Int),3⟩,⟨3,(m:Int),(g:Int),(p:Int),0,0⟩]=oe (6*m+3*g+(p+1)):=by
  show _=oe (6*m+3*g+p)++G5 (6*m+3*g+p)
  rw [←h]
  unfold G5
  rw [show(6*m+3*g+p) / 6=m by omega,show(6*m+3*g+p) / 3 % 2=g by omega,show(6*m+3*g+p) % 3=p by omega]
  simp
theorem ai6 {l:List Int} {x:Int} (h:∀j,j<l.length->0<=el l j/\el l j<=9999) (hx:0<=x/\x<=9999):∀j,j<(l++[x]).length->0<=el (l++[x]) j/\el (l++[x]) j<=9999:=by
  intro j bJ
  rw [List.length_append,List.length_singleton] at bJ
  by_cases e:j<l.length
  · rw [show el (l++[x]) j=el l j by rw [hJ (by simp;omega),hJ e,List.getElem_append_left e]];exact h j e
  · rw [show el (l++[x]) j=x by rw [hJ (by simp;omega),List.getElem_append_right (by omega)];simp];exact hx
theorem alD (k n:Nat) (bc:0<n):0<=Int.tmod (k:Int) (n:Int)/\Int.tmod (k:Int) (n:Int)<n:=by
  rw [Int.tmod_eq_emod_of_nonneg (by omega)]
  exact⟨Int.emod_nonneg _ (by omega),Int.emod_lt_of_pos _ (by omega)⟩
theorem alC (x:Int):-5<Int.tmod x 5/\Int.tmod x 5<5:=by
  have h1:=Int.tmod_lt_of_pos x (show(0:Int)<5 by decide)
  have ah:=Int.tmod_lt_of_pos (-x) (show(0:Int)<5 by decide)
  rw [Int.neg_tmod] at ah
  omega
end Go.Proofs.YtmeoackmjdoecaaGreat
namespace Go.Proofs.YtmeoackmjdoecaaGreat
open Go
theorem YB (w0:World) (x:Int) (jh:0<=x) (oM:x<=9223372036854775807):Calls Tryz.prog 204 [.int .u64 x].toArray w0 (fun e w'=>e= .returned (R (tC x))/\bX aa w0 w'):=
  (Go.Proofs.YtmeoackmjdoecaaGreatBits.bits_Len x w0 jh (by omega)).mono fun e w' ⟨h1,ah⟩=>⟨h1,ah▸bX.refl _ _⟩
end Go.Proofs.YtmeoackmjdoecaaGreat
namespace Go.Proofs.YtmeoackmjdoecaaGreat
open Go
set_option linter.unusedVariables false
set_option maxRecDepth 100000
section
variable {P:Program} {n:Nat} {w0:World} {M:aw} {u:World} {N:aw} {β:Nat->Nat} {σ:bw} {a:Act} {w:World} {Q:Exit->Act->World->Prop}
theorem WE {x y:Int}:fw P u N (.int .mul .i64 x y) (R (IntKind.i64.wrap (x*y))):=fun _ _=>rfl
theorem Ns {s d:TypeId} {x:Int} {qE:TypeDesc} (hs:P.underlying s=some qE) (hd:P.underlying d=some (.int .i64)) (h0:0<=x) (h1:x<=255):fw P u N (.hG (Go.convert s d (.int .u8 x))) (R x):=fun w _=>by
  show(Go.convert s d (.int .u8 x)).run P w=_
  unfold Go.convert
  simp only [Sem.run_bind,run_underlying hs,run_underlying hd,Result.andThen_ok]
  have e:IntKind.i64.wrap x=x:=u2 ⟨by omega,by omega⟩
  cases qE<;>first|(simp [e];done)|rfl|(show Result.ok (Value.int .i64 (IntKind.i64.wrap x)) w=_;rw [e])
theorem Ei {m:Nat} (hm:m<=1073741823) (x:Int):0<=mg x (m:Int)/\mg x (m:Int)<=m:=by
  unfold mg
  have h1:(BitVec.ofInt 64 (m:Int)).toNat=m:=by
    rw [BitVec.toNat_ofInt]
    have:((m:Int) % ((2 ^ 64:Nat):Int)).toNat=m:=by
      rw [Int.emod_eq_of_lt (by omega) (by omega)];rfl
    exact this
  have ah:(BitVec.ofInt 64 x&&& BitVec.ofInt 64 (m:Int)).toNat<=m:=by
    rw [BitVec.toNat_and,h1];exact Nat.and_le_right
  rw [u2 (⟨by omega,by omega⟩:aq _)]
  exact⟨by omega,by omega⟩
end
abbrev kk (h:Int):Int:=IntKind.i64.wrap (IntKind.i64.wrap (h*6364136223846793005)+1442695040888963407)
abbrev rX (H:Int):Int:=mg (Ku (qA H 33) (qA H 45)) 255
theorem zx (w0:World) (c:List d_) (aN:af d_) (G F:aw) (q:af eW) (hc:jm c aN G F w0 q):
    Calls Tryz.prog 26 [aM q.1.b (q.1.off+0*3)].toArray w0 (lZ c aN G F q w0 fun x:Int=>0<=x/\x<=255):=by
  refine Calls.run F Tryz.func26 ?_
  intro ac β S
  obtain⟨i,h,hi,ax,o⟩:=hc.aF.ex
  have hle:c.length<=4194304:=ag.le hc.rd
  have h1:(1:Nat)=[(⟨c.length,aN.1,i,h⟩:eW)].length:=rfl
  refine S.go 16 (.cons (dG o.al 3 0 2 (R h) (Nat.succ_pos 0)) (.cons (WE (x:=h) (y:=6364136223846793005)) (.cons (Wz (x:=IntKind.i64.wrap (h*6364136223846793005)) (y:=1442695040888963407)) .nil))) fun ac w β S=>S.kV (α:=eW) o (t:=3) (k:=0) (j:=2) (off:=q.1.off+0*3+2) (v:=R (kk h)) (y:=(⟨c.length,aN.1,i,kk h⟩:eW)) (q:=()) (fun _ _ _=>⟨aa,⟨(show aq i from⟨by omega,by omega⟩),y0 _⟩,fun _ h=>False.elim h⟩) (hk:=Nat.succ_pos 0) fun w N aX eP S up eX GV iB sK=>?_
  have eX:ai w0 F w N aX [(⟨c.length,aN.1,i,kk h⟩:eW)] ((q.1,eP):af eW):=eX
  have IV:=S.tj hc.rd hc.ap
  have s2:∀b,aX b->F b:=fun b hb=>(iB b hb).resolve_right id
  have ps:∀b,F b->N b:=fun b hb=>sK b (o.sub b hb)
  refine S.a8 9 (.cons (dG eX.al 3 0 2 (R (kk h)) (Nat.succ_pos 0)) (.cons (FO (yk:= .u64) (x:=kk h) (y:=33) (by decide)) (.cons (dG eX.al 3 0 2 (R (kk h)) (Nat.succ_pos 0)) (.cons (FO (yk:= .u64) (x:=kk h) (y:=45) (by decide)) (.cons (WD (x:=qA (kk h) 33) (y:=qA (kk h) 45)) (.cons (te (x:=Ku (qA (kk h) 33) (qA (kk h) 45)) (y:=255))
    (.cons (dG eX.al 3 0 1 (R i) (Nat.succ_pos 0)) (.cons (dG eX.al 22 0 0 (ab c.length aN.1) (Nat.succ_pos 0)) .nil)))))))) (decide (i<(c.length:Int))) (fun ac w β h1 cW S=>?_) (fun ac w β h1 cW S=>?_)
  · have hb:0<=(el c i.toNat).v/\(el c i.toNat).v<=255:=ag.el IV i.toNat (by omega)
    have jw:0<=rX (kk h)/\rX (kk h)<=255:=Ei (m:=255) (by decide) _
    refine S.go 13 (.cons (dG eX.al 22 0 0 (ab c.length aN.1) (Nat.succ_pos 0)) (.cons (dG eX.al 3 0 1 (R i) (Nat.succ_pos 0)) (.cons (cP IV i Tryz.underlying22) (.cons (cn IV 5 i.toNat) (.cons (Ns (s:=5) (d:=3) (x:=(el c i.toNat).v) Tryz.underlying5 Tryz.underlying3 hb.1 hb.2) (.cons (Nr (x:=rX (kk h)) (y:=(el c i.toNat).v) ⟨by omega,by omega⟩) (.cons (te (x:=rX (kk h)+(el c i.toNat).v) (y:=255))
      (.cons (dG eX.al 3 0 1 (R i) (Nat.succ_pos 0)) (.cons (cO i 1) .nil))))))))) fun ac w β S=>S.kV (α:=eW) eX (t:=3) (k:=0) (j:=1) (off:=q.1.off+0*3+1) (v:=R (i+1)) (y:=(⟨c.length,aN.1,i+1,kk h⟩:eW)) (q:=()) (fun _ _ _=>⟨aa,⟨(show aq (i+1) from⟨by omega,by omega⟩),y0 _⟩,fun _ h=>False.elim h⟩) (hk:=Nat.succ_pos 0) fun w N cR pF S up au GV iB sK=>?_
    have au:ai w0 F w N cR [(⟨c.length,aN.1,i+1,kk h⟩:eW)] ((q.1,pF):af eW):=au
    refine S.aP 9 .nil [R (mg (rX (kk h)+(el c i.toNat).v) 255)] fun ac w β S=>?_
    have hb:=Ei (m:=255) (by decide) (rX (kk h)+(el c i.toNat).v)
    exact Bq S hb rfl ⟨by omega,by omega⟩ (hc.step au ⟨by omega,by omega⟩ (y0 _) (fun b hb=>s2 b ((iB b hb).resolve_right id)) (fun b hb=>sK b (ps b hb)))
  · refine S.aP 10 .nil [R (rX (kk h))] fun ac w β S=>?_
    have hb:0<=rX (kk h)/\rX (kk h)<=255:=Ei (m:=255) (by decide) _
    exact Bq S hb rfl ⟨by omega,by omega⟩ (hc.step eX hi (y0 _) s2 ps)
theorem gK (w0:World) (c:List d_) (aN:af d_) (G F:aw) (q:af eW) (hc:jm c aN G F w0 q) (n:Int) (bc:aq n):
    Calls Tryz.prog 15 [aM q.1.b (q.1.off+0*3),R n].toArray w0 (lZ c aN G F q w0 fun x:Int=>(n<=0->x=0)/\(0<n->0<=x/\x<n)):=by
  refine Calls.run F Tryz.func15 ?_
  intro ac β S
  have aF:=hc.aF
  have Ax:=bc.b9;have Dv:=bc.hi
  have DB:∀x:Int,0<=x->0<n->0<=x.tmod n/\x.tmod n<n:=fun x h1 ah=>by
    rw [Int.tmod_eq_emod_of_nonneg h1]
    exact⟨Int.emod_nonneg _ (by omega),Int.emod_lt_of_pos _ ah⟩
  refine S.a8 12 .nil (decide (n<=0)) (fun ac w β h1 cW S=>?_) (fun ac w β h1 cW S=>?_)
  · refine S.aP 7 .nil [R 0] fun ac w β S=>?_
    exact Bq S ⟨fun _=>rfl,fun h=>absurd h (by omega)⟩ rfl ⟨by decide,by decide⟩ aF
  refine S.a8 10 .nil (decide (n<=256)) (fun ac w β ah bM S=>?_) (fun ac w β ah bM S=>?_)
  · refine S.go 4 .nil fun ac w β S=>S.dS (d:=14) aF (zx w c aN G F q (S.dL aF)) fun ac w N x qq F1 S hx up fp CW aF=>?_
    refine S.aP 6 (.cons (rU (x:=x) (y:=n) (by omega)) .nil) [R (x.tmod n)] fun ac w β S=>?_
    have bo:=DB x hx.1 (by omega)
    exact Bq S ⟨fun h=>absurd h cW,fun h=>bo⟩ rfl ⟨by omega,by omega⟩ aF
  refine S.go 6 .nil fun ac w β S=>S.dS (d:=18) aF (zx w c aN G F q (S.dL aF)) fun ac w N x qq F1 S hx up fp CW aF=>?_
  refine S.go 6 .nil fun ac w β S=>S.dS (d:=20) aF (zx w c aN G F q (S.dL aF)) fun ac w N y qq F1 S hy up fp CW aF=>?_
  refine S.go 6 .nil fun ac w β S=>S.dS (d:=22) aF (zx w c aN G F q (S.dL aF)) fun ac w N z qq F1 S fB up fp CW aF=>?_
  refine S.go 6 .nil fun ac w β S=>S.dS (d:=24) aF (zx w c aN G F q (S.dL aF)) fun ac w N v qq F1 S bu up fp CW aF=>?_
  refine S.aP 21 (.cons (w3 (x:=x) (y:=16777216) ⟨by omega,by omega⟩) (.cons (w3 (x:=y) (y:=65536) ⟨by omega,by omega⟩) (.cons (cO (x*16777216) (y*65536)) (.cons (w3 (x:=z) (y:=256) ⟨by omega,by omega⟩) (.cons (cO (x*16777216+y*65536) (z*256)) (.cons (cO (x*16777216+y*65536+z*256) v) (.cons (rU (x:=x*16777216+y*65536+z*256+v) (y:=n) (by omega)) .nil))))))) [R ((x*16777216+y*65536+z*256+v).tmod n)] fun ac w β S=>?_
  have bo:=DB (x*16777216+y*65536+z*256+v) (by omega) (by omega)
  exact Bq S ⟨fun h=>absurd h cW,fun h=>bo⟩ rfl ⟨by omega,by omega⟩ aF
theorem Ov (w0:World) (c:List d_) (aN:af d_) (hc:br w0 c aN) (hl:c.length<=1048576):
    Calls Tryz.prog 14 [ab c.length aN.1].toArray w0 (Ca c aN w0):=by
  refine Calls.run aa Tryz.func14 ?_
  intro ac β S
  refine S.go 20 (.cons (cO 94701 (c.length:Int)) .nil) fun ac w β S=>?_
  refine ek (fun bG ac w=>∃(j:Nat) (ax:Int) (u:_) (N:_) (β:_),bG=c.length-j/\j<=c.length/\(0<=ax/\ax<=1073741823)/\aj Tryz.prog Tryz.f14.ntmps w0 aa u N β ⟨[(0,.v (ab c.length aN.1)),(3,.v (R ax)),(4,.v (R (j:Int)))],[]⟩ ac w) _ ⟨0,94701+(c.length:Int),_,_,_,rfl,Nat.zero_le _,⟨by omega,by omega⟩,S.z⟩ ?_
  clear S
  rintro f bG bm ac w ⟨j,ax,u,N,β,rfl,bJ,hb,S⟩
  refine S.rs fun S=>?_
  have aI:∀(u:World) (N:aw),fw Tryz.prog u N (.hG (Instr.build 62 [(0,ab c.length aN.1),(2,R ax)].toArray)) (.agg [ab c.length aN.1,R 0,R ax].toArray):=fun u N=>dY (fun w=>by kernel_rfl)
  have bo:aq (0:Int)/\aq ax:=⟨⟨by decide,by decide⟩,by omega,by omega⟩
  refine S.a8 8 .nil (decide ((j:Int)<(c.length:Int))) (fun ac w β h1 cW S=>?_) (fun ac w β h1 cW S=>?_)
  · refine S.a8 5 .nil (decide ((j:Int)<4000)) (fun ac w β ah bM S=>?_) (fun ac w β ah bM S=>?_)
    · have bu:0<=(el c j).v/\(el c j).v<=255:=ag.el (S.arg hc) j (by omega)
      refine S.ge 25 (.cons (w3 (x:=ax) (y:=131) ⟨by omega,by omega⟩) (.cons (cA (S.arg hc) j Tryz.underlying22) (.cons (cn (S.arg hc) 5 j) (.cons (Ns (s:=5) (d:=3) (x:=(el c j).v) Tryz.underlying5 Tryz.underlying3 bu.1 bu.2) (.cons (cO (ax*131) (el c j).v) (.cons (cO (ax*131+(el c j).v) 7) (.cons (te (x:=ax*131+(el c j).v+7) (y:=1073741823)) (.cons (cO (j:Int) 1) .nil)))))))) f fun ac w β S=>bm.of (c.length-(j+1)) _ _ (by omega) ⟨j+1,mg (ax*131+(el c j).v+7) 1073741823,_,_,_,rfl,by omega,Ei (m:=1073741823) (by decide) _,S.z⟩
    · refine S.go 14 (.cons (aI u N) .nil) fun ac w β S=>S.h5 0 (⟨c.length,aN.1,0,ax⟩:eW) () bo fun β N b F S up o GV=>?_
      refine S.aP 2 .nil [aM b 0] fun ac w β S=>?_
      exact Uw S hc o ⟨by omega,by omega⟩ bo.2
  · refine S.go 19 (.cons (aI u N) .nil) fun ac w β S=>S.h5 0 (⟨c.length,aN.1,0,ax⟩:eW) () bo fun β N b F S up o GV=>?_
    refine S.aP 2 .nil [aM b 0] fun ac w β S=>?_
    exact Uw S hc o ⟨by omega,by omega⟩ bo.2
end Go.Proofs.YtmeoackmjdoecaaGreat
