/- Regions that draw their order: what only asks is taken first, the rest in whatever order. No program is named here. -/
import Derived.Test.YtjlocpdfcanlhaaGreatA1
import Derived.OrdersHeld
namespace Go.Proofs.YtjlocpdfcanlhaaGreat
open Go
def z4 (ops:Array Oper) (j k:Nat):Bool:=
  match ops[j]? with
  |some o=>o.after.any fun e=>Region.binds .any e&&Nat.beq e.on k
  |none=>false
def tL (ops:Array Oper):Nat->List Nat->Bool
  |_,[]=>true
  |j,k::r=>z4 ops j k&&tL ops k r
def rv (ops:Array Oper) (b9:Array Bool):Prop:=∀j k,z4 ops j k=true->b9.getD j false=true->b9.getD k false=true
theorem Qz {ops:Array Oper} {j k:Nat} (h:z4 ops j k=true):∃o e,ops[j]? =some o/\e∈o.after/\Region.binds .any e=true/\e.on=k:=by
  unfold z4 at h
  split at h
  · rename_i o bM
    obtain⟨e,he,an⟩:=Array.any_eq_true'.1 h
    simp only [Bool.and_eq_true] at an
    exact⟨o,e,bM,he,an.1,Nat.eq_of_beq_eq_true an.2⟩
  · cases h
theorem Vu {ops:Array Oper} {b9:Array Bool} {j k:Nat} (b0:j∈Region.ready .any ops b9) (h:z4 ops j k=true):b9.getD k false=true:=by
  obtain⟨o,e,bM,he,hb,rfl⟩:=Qz h
  obtain⟨_,jW,kF,ph⟩:=mem_ready.1 b0
  rw [bM] at kF
  cases kF
  exact ph e he hb
theorem ajT {b9:Array Bool} {j i:Nat} (h:(b9.setIfInBounds i true).getD j false=true):b9.getD j false=true\/j=i:=by
  by_cases e:i=j
  · exact .inr e.symm
  · left
    rwa [getD_set_ne false e] at h
theorem rv.set {ops:Array Oper} {b9:Array Bool} {i:Nat} (h:rv ops b9) (hi:i∈Region.ready .any ops b9):rv ops (b9.setIfInBounds i true):=fun j k he b0=>by
  refine getD_set_true ?_
  rcases ajT b0 with h1|rfl
  · exact h j k he h1
  · exact Vu hi he
theorem rv.path {ops:Array Oper} {b9:Array Bool} (h:rv ops b9):∀(l:List Nat) (j i:Nat),tL ops j l=true->(j::l).getLast?=some i->b9.getD j false=true->b9.getD i false=true
  |
    [],j,i,_,hl,b0=>by
    simp at hl;subst hl;exact b0
  |k::r,j,i,bD,hl,b0=>by
    simp only [tL,Bool.and_eq_true] at bD
    rw [List.getLast?_cons_cons] at hl
    exact h.path r k i bD.2 hl (h j k bD.1 b0)
section
variable {P:Program} {ops:Array Oper} {cd:Act->World->Prop} {C:World->Prop} {st:Nat}
abbrev k9 (cd:Act->World->Prop):Exit->Act->World->Prop:=fun e a w=>e= .normal/\cd a w
def ar (P:Program) (ops:Array Oper) (cd:Act->World->Prop) (st:Nat) (C:World->Prop):Nat->Array Bool->Act->World->Prop
  |
    0,b9,a,w=>Region.ready .any ops b9=[]/\cd a w
  |f+1,b9,a,w=>(Region.ready .any ops b9=[]->cd a w)/\
    ∀i∈Region.ready .any ops b9,wpOp P ops (k9 cd) i (fun a0 w'=>((b9.setIfInBounds i true).getD st false=false->C w')/\ar P ops cd st C f (b9.setIfInBounds i true) a0 w') a w
theorem ar.any:∀(f:Nat) (b9:Array Bool) (a:Act) (w:World),ar P ops cd st C f b9 a w->wpAny P .any ops (k9 cd) f b9 a w
  |0,_,_,_,h=>⟨h.1,rfl,h.2⟩
  |f+1,_,_,_,h=>⟨fun h0=>⟨rfl,h.1 h0⟩,fun i hi=>wpOp_mono (fun a0 w' cl=>ar.any f _ a0 w' cl.2) (h.2 i hi)⟩
theorem ar.mono {NM:World->Prop} (hc:∀w,NM w->C w):∀(f:Nat) (b9:Array Bool) (a:Act) (w:World),ar P ops cd st NM f b9 a w->ar P ops cd st C f b9 a w
  |0,_,_,_,h=>h
  |f+1,_,_,_,h=>⟨h.1,fun i hi=>wpOp_mono (fun a0 w' cl=>⟨fun h0=>hc _ (cl.1 h0),ar.mono hc f _ a0 w' cl.2⟩) (h.2 i hi)⟩
theorem ar.first {i:Nat} {nc:Oper} {v:Value} (hi:ops[i]? =some nc) (AZ:Region.noSelect ops=true) (SZ:ops.size<=st\/∃k l,tL ops st (k::l)=true/\(k::l).getLast?=some i):
    ∀
      (f:Nat) (b9:Array Bool) (a:Act) (w:World),rv ops b9->b9.size<=ops.size->
      (∀j nd,ops[j]? =some nd->j≠i->b9.getD j true=false->(∀e∈nd.after,Region.binds .any e=true->e.on≠i)->nc.apart ops nd=true)->
      i∈Region.ready .any ops b9->YieldsIf P ops C nc v a->C w->
      ar P ops cd st C f (b9.setIfInBounds i true) (a.put nc.dst v) w->ar P ops cd st C (f+1) b9 a w:=by
  intro f
  have JM:∀c a w,k9 cd (.panic c) (a.put nc.dst v) w->k9 cd (.panic c) a w:=fun _ _ _ h=>(by cases h.1)
  have Cy:∀(b9:Array Bool),i∈Region.ready .any ops b9->b9.getD i false=false:=fun b9 bn=>by
    have h0:=(mem_ready.1 bn).1
    rcases Nat.lt_or_ge i b9.size with cl|cl
    · simp [cl] at h0 ⊢;exact h0
    · simp [Array.getElem?_eq_none cl]
  have hD:i<ops.size:=(Array.getElem?_eq_some_iff.1 hi).1
  have Uf:∀(b9:Array Bool),rv ops b9->i∈Region.ready .any ops b9->∀j,j∈Region.ready .any ops b9->j≠st:=fun b9 qS bn j b0 e=>by
    subst e
    rcases SZ with h|⟨k,l,h1,an⟩
    · obtain⟨_,o,bM,_⟩:=mem_ready.1 b0
      have:=(Array.getElem?_eq_some_iff.1 bM).1
      omega
    · simp only [tL,Bool.and_eq_true] at h1
      have:=qS.path l k i h1.2 an (Vu b0 h1.1)
      rw [Cy b9 bn] at this
      cases this
  have aj0:∀(b9:Array Bool),rv ops b9->b9.size<=ops.size->i∈Region.ready .any ops b9->b9.getD st false=false:=fun b9 qS hF bn=>by
    cases h:b9.getD st false with
    |false=>rfl
    |true=>
      rcases SZ with h0|⟨k,l,h1,an⟩
      · simp [Array.getElem?_eq_none (show b9.size<=st by omega)] at h
      · simp only [tL,Bool.and_eq_true] at h1
        have:=qS.path l k i h1.2 an (qS st k h1.1 h)
        rw [Cy b9 bn] at this
        cases this
  induction f with
  |zero=>
    intro b9 a w qS hF _ bn hy bk H
    refine⟨fun h=>(by rw [h] at bn;cases bn),fun j b0=>?_⟩
    by_cases ll:j=i
    · subst ll;exact hy.wpOp hi bk ⟨fun _=>bk,H⟩
    · have:=ready_mono b0 ll
      rw [H.1] at this
      cases this
  |succ f gh=>
    intro b9 a w qS hF AO bn hy bk H
    refine⟨fun h=>(by rw [h] at bn;cases bn),fun j b0=>?_⟩
    by_cases ll:j=i
    · subst ll;exact hy.wpOp hi bk ⟨fun _=>bk,H⟩
    have aeh:=Uf b9 qS bn j b0
    have aef:=Uf b9 qS bn i bn
    have h1:=H.2 j (ready_mono b0 ll)
    obtain⟨AQ,nd,vJ,ph⟩:=mem_ready.1 b0
    have JL:∀e∈nd.after,Region.binds .any e=true->e.on≠i:=fun e he hb heq=>by
      have an:=ph e he hb
      rw [heq,Cy b9 bn] at an
      cases an
    have an:=wpOp_putIf vJ (AO j nd vJ ll AQ JL) (fun cs b=>Region.noSelect_spec AZ i nc cs b hi) (fun cs b=>Region.noSelect_spec AZ j nd cs b vJ) JM hy h1
    have Jn:∀k ok,ops[k]? =some ok->k≠i->(b9.setIfInBounds j true).getD k true=false->(∀e∈ok.after,Region.binds .any e=true->e.on≠i)->nc.apart ops ok=true:=fun k ok hk Jt hu JK=>by
      refine AO k ok hk Jt ?_ JK
      by_cases r7:j=k
      · subst r7;exact AQ
      · rwa [getD_set_ne true r7] at hu
    refine wpOp_mono (fun a0 w' aF=>?_) an
    obtain⟨b2,bl,cR⟩:=aF
    have m3:=aj0 b9 qS hF bn
    have Al:C w':=bl (by rw [getD_set_ne false aeh,getD_set_ne false aef];exact m3)
    rw [Array.setIfInBounds_comm _ _ (Ne.symm ll)] at cR
    exact⟨fun _=>Al,gh (b9.setIfInBounds j true) a0 w' (qS.set b0) (by simpa using hF) Jn (ready_mono bn (Ne.symm ll)) b2 Al cR⟩
theorem ar.done {b9:Array Bool} {a:Act} {w:World} (bn:Region.ready .any ops b9=[]) (h:cd a w):∀f,ar P ops cd st C f b9 a w
  |0=>⟨bn,h⟩
  |_+1=>⟨fun _=>h,by rw [bn];simp⟩
theorem ar.many {rs:List Nat} {f:Nat} {b9:Array Bool} {a:Act} {w:World} (bn:Region.ready .any ops b9=rs) (kE:rs.isEmpty=false)
    (h:∀i∈rs,wpOp P ops (k9 cd) i (fun a0 w'=>((b9.setIfInBounds i true).getD st false=false->C w')/\ar P ops cd st C f (b9.setIfInBounds i true) a0 w') a w):ar P ops cd st C (f+1) b9 a w:=
  ⟨fun h0=>(by rw [h0] at bn;subst bn;cases kE),bn▸h⟩
theorem ar.one {i f:Nat} {b9:Array Bool} {a:Act} {w:World} (bn:Region.ready .any ops b9=[i])
    (h:wpOp P ops (k9 cd) i (fun a0 w'=>((b9.setIfInBounds i true).getD st false=false->C w')/\ar P ops cd st C f (b9.setIfInBounds i true) a0 w') a w):ar P ops cd st C (f+1) b9 a w:=
  ar.many bn rfl fun j b0=>by
    simp only [List.mem_cons,List.not_mem_nil,or_false] at b0
    subst b0
    exact h
theorem ar.last {f:Nat} {l:Array Bool} {a:Act} {w:World} (m3:l.getD st false=true) (h:ar P ops cd st C f l a w):(l.getD st false=false->C w)/\ar P ops cd st C f l a w:=
  ⟨fun h0=>(by rw [m3] at h0;cases h0),h⟩
def P9 (ops:Array Oper) (b9:Array Bool):Bool:=
  (List.range ops.size).all fun j=>!b9.getD j false||(match ops[j]? with|some o=>o.after.all fun e=>!Region.binds .any e||b9.getD e.on false|none=>true)
theorem aab {b9:Array Bool} (h:P9 ops b9=true):rv ops b9:=fun j k he b0=>by
  obtain⟨o,e,bM,hm,hb,rfl⟩:=Qz he
  have eP:j<ops.size:=(Array.getElem?_eq_some_iff.1 bM).1
  have h1:=List.all_eq_true.1 h j (List.mem_range.2 eP)
  rw [b0,bM] at h1
  simp only [Bool.not_true,Bool.false_or] at h1
  have an:=Array.all_eq_true_iff_forall_mem.1 h1 e hm
  rw [hb] at an
  simpa using an
def AW (ops:Array Oper) (st:Nat) (b9:Array Bool) (i:Nat) (path:List Nat):Bool:=
  Region.noSelect ops&&Region.free .any ops b9 i&&(Region.ready .any ops b9).contains i&&P9 ops b9&&Nat.ble b9.size ops.size&&
    (Nat.ble ops.size st||(match path with|[]=>false|k::l=>tL ops st (k::l)&&(match (k::l).getLast? with|some x=>Nat.beq x i|none=>false)))
end
section
variable {P:Program} {n:Nat} {w0:World} {M:au} {u:World} {N:au} {β:Nat->Nat} {σ σ':b1} {a:Act} {w:World} {ops:Array Oper} {cd:Act->World->Prop} {C:World->Prop} {st:Nat}
structure e6 (w0:World) (M:au) (u:World) (N:au) (β:Nat->Nat) (aM:List (List Value)) (w':World):Prop where
  box:∀(k:Nat) (cs:List Value),aM[k]? =some cs->∃T,w'.heap[β k]? =some (.cells cs.toArray T (0,0))
  sep:∀b,N b->b<w'.heap.size/\w'.heap[b]? =u.heap[b]?
  fp:bu M w0 w'
theorem aj.rc (S:aj P n w0 M u N β σ a w):e6 w0 M u N β σ.aM w:=⟨S.box,fun b hb=>⟨(S.sep b hb).1,(S.sep b hb).2.1⟩,S.fp⟩
theorem aj.move (S:aj P n w0 M u N β σ a w) {w':World} (h:e6 w0 M u N β σ.aM w'):aj P n w0 M u N β σ a w':=
  ⟨S.l_,S.aW,S.env,S.ok,h.box,S.inj,S.new,fun b hb=>⟨(h.sep b hb).1,(h.sep b hb).2,(S.sep b hb).2.2⟩,h.fp,S.k3⟩
theorem aj.dP (S:aj P n w0 M u N β σ a w) {Q:Exit->Act->World->Prop} {id f:Nat} (st:Nat) (hm:P.follows .mixedOrders=true) (bf:ops.size=f)
    (h:∀w',aj P n w0 M u N β σ a w'->ar P ops (fun a w=>Q .normal a w) st (e6 w0 M u N β σ.aM) f (Array.replicate f false) a w'):(Code.region id ops true).wp P Q a w:=by
  refine Code.wp_mono (Q:=k9 fun a w=>Q .normal a w) (fun e a w a9=>a9.1▸a9.2) (wp_region_any hm ?_)
  rw [bf]
  exact ar.any _ _ _ _ (h _ (S.ext (bu.draw ab w _)))
theorem ar.next {bI:World} {aA:au} {aM:List (List Value)} {f:Nat} {l:Array Bool} (dR:aj P n w0 M bI aA β σ' a w) (up:∀b,N b->aA b/\bI.heap[b]? =u.heap[b]?) (jG:σ'.aM=aM)
    (h:ar P ops cd st (e6 w0 M bI aA β σ'.aM) f l a w):(l.getD st false=false->e6 w0 M u N β aM w)/\ar P ops cd st (e6 w0 M u N β aM) f l a w:=by
  subst jG
  have back:∀w',e6 w0 M bI aA β σ'.aM w'->e6 w0 M u N β σ'.aM w':=fun w' h=>⟨h.box,fun b hb=>⟨(h.sep b (up b hb).1).1,(h.sep b (up b hb).1).2.trans (up b hb).2⟩,h.fp⟩
  exact⟨fun _=>back _ dR.rc,ar.mono back _ _ _ _ h⟩
theorem ar.keep {bI:World} {aA:au} {aM:List (List Value)} {f:Nat} {l:Array Bool} (dR:aj P n w0 M bI aA β σ' a w) (up:∀b,N b->aA b/\bI.heap[b]? =u.heap[b]?) (jG:σ'.aM=aM)
    (h:ar P ops cd st (e6 w0 M u N β aM) f l a w):(l.getD st false=false->e6 w0 M u N β aM w)/\ar P ops cd st (e6 w0 M u N β aM) f l a w:=by
  subst jG
  have back:∀w',e6 w0 M bI aA β σ'.aM w'->e6 w0 M u N β σ'.aM w':=fun w' h=>⟨h.box,fun b hb=>⟨(h.sep b (up b hb).1).1,(h.sep b (up b hb).1).2.trans (up b hb).2⟩,h.fp⟩
  exact⟨fun _=>back _ dR.rc,h⟩
theorem ar.stay {cJ:Nat->Nat} {aM:List (List Value)} {f:Nat} {l:Array Bool} (dR:aj P n w0 M u N cJ σ' a w) (mn:∀k,k<aM.length->cJ k=β k) (jG:∀(k:Nat) (cs:List Value),aM[k]? =some cs->σ'.aM[k]? =some cs)
    (h:ar P ops cd st (e6 w0 M u N cJ σ'.aM) f l a w):(l.getD st false=false->e6 w0 M u N β aM w)/\ar P ops cd st (e6 w0 M u N β aM) f l a w:=by
  have back:∀w',e6 w0 M u N cJ σ'.aM w'->e6 w0 M u N β aM w':=fun w' h=>⟨fun k cs hk=>by
      rw [←mn k (List.getElem?_eq_some_iff.1 hk).1]
      exact h.box k cs (jG k cs hk),h.sep,h.fp⟩
  exact⟨fun _=>back _ dR.rc,ar.mono back _ _ _ _ h⟩
def cu (n:Nat) (l:List Nat):Array Bool:=l.foldl (fun a i=>a.setIfInBounds i true) (Array.replicate n false)
theorem ar.m8 {f:Nat} {l:Array Bool} (h:∀W:Nat->Array Bool->Act->World->Prop,W=ar P ops cd st C->W f l a w):ar P ops cd st C f l a w:=h _ rfl
theorem ar.mP {W:Nat->Array Bool->Act->World->Prop} {f:Nat} {l l':Array Bool} (e:l=l') (h:W f l' a w):W f l a w:=e▸h
theorem mD {Q:Exit->Act->World->Prop} {c:Code} (aa:Act->World->Prop) (h:c.wp P (k9 aa) a w) (k:∀a w,aa a w->Q .normal a w):c.wp P Q a w:=
  Code.wp_mono (Q:=k9 aa) (fun _ a w a9=>a9.1▸k a w a9.2) h
theorem H7 {Q:Exit->Act->World->Prop} {di:Act->World->Prop} {i:Nat} {o:Oper} {claims:List (Ask×Value)} (bM:ops[i]? =some o) (bV:gA P n ops [o] σ (claims.map (·.2))=some (σ',claims)) (a9:fr P u N claims)
    (S:aj P n w0 M u N β σ a w) (K:∀a0 w' cJ,aj P n w0 M u N cJ σ' a0 w'->(∀k,k<σ.aM.length->cJ k=β k)->di a0 w'):wpOp P ops Q i di a w:=by
  unfold wpOp
  simp only [bM]
  simp only [gA] at bV
  split at bV
  · cases bV
  · rename_i aJ
    rw [mi S aJ]
    simp only [Bool.false_eq_true,if_false]
    cases bD:σ.put n o.dst (.v undef) with
    |none=>rw [bD] at bV;cases bV
    |some bH=>
      rw [bD] at bV
      simp only [Option.bind_some,Option.some.injEq,Prod.mk.injEq] at bV
      obtain⟨rfl,_⟩:=bV
      exact K _ _ _ (S.put bD (fun _ _ e=>by cases e)) (fun _ _=>rfl)
  · rename_i aJ
    rw [mi S aJ]
    simp only [if_true]
    left
    unfold Oper.wp
    split at bV
    · cases bV
    · rename_i x hx
      obtain⟨h1,an⟩:=l3 S hx
      rw [h1]
      simp only [Oper.upon]
      cases bD:σ.put n o.dst x with
      |none=>rw [bD] at bV;cases bV
      |some bH=>
        rw [bD] at bV
        simp only [Option.bind_some,Option.some.injEq,Prod.mk.injEq] at bV
        obtain⟨rfl,_⟩:=bV
        exact K _ _ _ (S.put bD an) (fun _ _=>rfl)
    · rename_i q hx
      have h1:=l3 S hx
      split at bV
      · cases bV
      · rename_i v c8 he
        cases bD:σ.put n o.dst (.v v) with
        |none=>rw [bD] at bV;cases bV
        |some bH=>
          rw [bD] at bV
          simp only [Option.bind_some,Option.map_some,Option.some.injEq,Prod.mk.injEq] at bV
          obtain⟨rfl,cA⟩:=bV
          subst cA
          have ia:=S.put bD (fun _ _ e=>by cases e)
          cases q with
          |call f args=>
            simp only [zs] at h1
            rw [h1,Oper.upon_enter]
            refine(a9.1 w (fun b hb=>⟨(S.sep b hb).1,(S.sep b hb).2.1⟩)).mono fun e w' ⟨aF,b2⟩=>?_
            subst aF
            exact K _ _ _ (ia.ext b2) (fun _ _=>rfl)
          |_=>
            have an:=h1 v (a9.1 w (fun b hb=>(S.sep b hb).2.1))
            rw [an]
            exact K _ _ _ ia (fun _ _=>rfl)
    · rename_i T cs hx
      have h1:=l3 S hx
      rw [h1]
      simp only [Oper.upon]
      have ik:=S.push cs T
      cases bD:b1.put n ⟨σ.env,σ.aM++[cs]⟩ o.dst (.p σ.aM.length 0) with
      |none=>rw [bD] at bV;cases bV
      |some bH=>
        rw [bD] at bV
        simp only [Option.bind_some,Option.some.injEq,Prod.mk.injEq] at bV
        obtain⟨rfl,_⟩:=bV
        have zq:=ik.put bD (fun k o e=>by cases e;simp)
        have e:(eJ.p σ.aM.length 0).val (fun k=>if k=σ.aM.length then w.heap.size else β k)=bg w.heap.size 0:=by simp [eJ.val]
        rw [e] at zq
        exact K _ _ _ zq (fun k hk=>by simp [Nat.ne_of_lt hk])
    · rename_i k cs hx
      obtain⟨h1,k3,an⟩:=l3 S hx
      rw [h1]
      simp only [Oper.upon]
      split at bV
      · rename_i hd
        rw [hd]
        simp only [Option.some.injEq,Prod.mk.injEq] at bV
        obtain⟨rfl,_⟩:=bV
        exact K _ _ _ (S.U8 an) (fun _ _=>rfl)
      · cases bV
theorem QL {i:Nat} {c8:List Value} {claims:List (Ask×Value)} {keep:List Nat} {m:Nat} (h:nC P n ops i 1 σ c8 keep m=some (σ',claims)):
    ∃o bH,ops[i]? =some o/\gA P n ops [o] σ c8=some (bH,claims)/\σ'=⟨bH.keep m keep,bH.aM.take m⟩:=by
  unfold nC at h
  cases hb:Nat.ble (i+1) ops.size with
  |false=>rw [hb] at h;cases h
  |true=>
    rw [hb] at h
    have hle:i+1<=ops.size:=Nat.le_of_ble_eq_true hb
    have bM:ops[i]? =some ops[i]:=Array.getElem?_eq_getElem (by omega)
    have hl:(ops.toList.drop i).take 1=[ops[i]]:=by
      rw [List.drop_eq_getElem_cons (show i<ops.toList.length by simp;omega)]
      simp
    simp only [cond_true,hl] at h
    cases bn:gA P n ops [ops[i]] σ c8 with
    |none=>rw [bn] at h;cases h
    |some r=>
      rw [bn] at h
      simp only [Option.map_some,Option.some.injEq,Prod.mk.injEq] at h
      exact⟨_,r.1,bM,by rw [bn,←h.2],h.1.symm⟩
theorem aj.NB (S:aj P n w0 M u N β σ a w) (m:Nat) (keep:List Nat):aj P n w0 M u N β ⟨σ.keep m keep,σ.aM.take m⟩ a w:=
  S.weaken m keep fun t fq jW h=>by
    have h1:=sg m keep t _ h
    have an:=S.ok t fq jW h1.1
    have aF:=h1.2 fq jW rfl
    simp;omega
theorem aj.VM {Q:Exit->Act->World->Prop} {di:Act->World->Prop} (S:aj P n w0 M u N β σ a w) {i:Nat} {claims:List (Ask×Value)} {keep:List Nat} {m:Nat} (a9:fr P u N claims)
    (bV:nC P n ops i 1 σ (claims.map (·.2)) keep m=some (σ',claims)) (K:∀a0 w' cJ,aj P n w0 M u N cJ σ' a0 w'->(∀k,k<σ.aM.length->cJ k=β k)->di a0 w'):wpOp P ops Q i di a w:=by
  obtain⟨o,bH,bM,he,rfl⟩:=QL bV
  exact H7 bM he a9 S fun a0 w' cJ dR mn=>K a0 w' cJ (dR.NB m keep) mn
def zy (P:Program) (ops:Array Oper) (σ:b1) (i:Nat):Bool:=
  match ops[i]? with
  |some o=>
    match oi ops σ o with
    |some false=>true
    |some true=>
      match tH P σ o with
      |some (.val _)=>true
      |some (.ask (.call _ _))=>false
      |some (.ask _)=>true
      |_=>false
    |none=>false
  |none=>false
theorem aj.hoist (S:aj P n w0 M u N β σ a w) {i f:Nat} {b9:Array Bool} {path:List Nat} {claims:List (Ask×Value)} {keep:List Nat} {m:Nat} (a1:AW ops st b9 i path=true) (p_:zy P ops σ i=true)
    (a9:fr P u N claims) (bV:nC P n ops i 1 σ (claims.map (·.2)) keep m=some (σ',claims))
    (K:∀a0,aj P n w0 M u N β σ' a0 w->ar P ops cd st (e6 w0 M u N β σ.aM) f (b9.setIfInBounds i true) a0 w):ar P ops cd st (e6 w0 M u N β σ.aM) (f+1) b9 a w:=by
  obtain⟨o,bH,bM,he,rfl⟩:=QL bV
  simp only [AW,Bool.and_eq_true,Bool.or_eq_true] at a1
  obtain⟨⟨⟨⟨⟨hv,nx⟩,qF⟩,o2⟩,dM⟩,G3⟩:=a1
  have bD:ops.size<=st\/∃k l,tL ops st (k::l)=true/\(k::l).getLast?=some i:=by
    rcases G3 with h|h
    · exact .inl (Nat.le_of_ble_eq_true h)
    · right
      split at h
      · cases h
      · rename_i k l
        simp only [Bool.and_eq_true] at h
        obtain⟨h1,an⟩:=h
        split at an
        · rename_i x hx
          exact⟨k,l,h1,by rw [hx,Nat.eq_of_beq_eq_true an]⟩
        · cases an
  have fin:∀v,YieldsIf P ops (e6 w0 M u N β σ.aM) o v a->aj P n w0 M u N β bH (a.put o.dst v) w->ar P ops cd st (e6 w0 M u N β σ.aM) (f+1) b9 a w:=fun v hy ik=>
    ar.first bM hv bD f b9 a w (aab o2) (Nat.le_of_ble_eq_true dM) (Region.free_spec bM nx) (by simpa using qF) hy S.rc (K _ (ik.NB m keep))
  unfold zy at p_
  rw [bM] at p_
  simp only [gA] at he
  split at he
  · cases he
  · rename_i aJ
    cases ia:σ.put n o.dst (.v undef) with
    |none=>rw [ia] at he;cases he
    |some F7=>
      rw [ia] at he
      simp only [Option.bind_some,Option.some.injEq,Prod.mk.injEq] at he
      obtain⟨rfl,_⟩:=he
      exact fin undef (.inr ⟨mi S aJ,rfl⟩) (S.put ia (fun _ _ e=>by cases e))
  · rename_i aJ
    simp only [aJ] at p_
    have hw:=mi S aJ
    split at he
    · cases he
    · rename_i x hx
      cases ia:σ.put n o.dst x with
      |none=>rw [ia] at he;cases he
      |some F7=>
        rw [ia] at he
        simp only [Option.bind_some,Option.some.injEq,Prod.mk.injEq] at he
        obtain⟨rfl,_⟩:=he
        exact fin (x.val β) (.inl ⟨hw,fun w' h=>(l3 (S.move h) hx).1⟩) (S.put ia (l3 S hx).2)
    · rename_i q hx
      split at he
      · cases he
      · rename_i v c8 hc
        cases ia:σ.put n o.dst (.v v) with
        |none=>rw [ia] at he;cases he
        |some F7=>
          rw [ia] at he
          simp only [Option.bind_some,Option.map_some,Option.some.injEq,Prod.mk.injEq] at he
          obtain⟨rfl,cA⟩:=he
          subst cA
          refine fin v (.inl ⟨hw,fun w' h=>?_⟩) (S.put ia (fun _ _ e=>by cases e))
          have dR:=S.move h
          have h1:=l3 dR hx
          cases q with
          |call g args=>simp only [hx] at p_;cases p_
          |_=>exact h1 v (a9.1 w' (fun b hb=>(dR.sep b hb).2.1))
    · rename_i T cs hx
      simp only [hx] at p_
      cases p_
    · rename_i k cs hx
      simp only [hx] at p_
      cases p_
end
end Go.Proofs.YtjlocpdfcanlhaaGreat
