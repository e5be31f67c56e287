/- Regions that draw their order: what only asks is taken first, the rest in whatever order. No program is named here. -/
import Derived.Test.YtjlocpdfcanlhaaGreatA1
import Derived.OrdersHeld
namespace Go.Proofs.YtjlocpdfcanlhaaGreat
open Go
def Am (ops:Array Oper) (j k:Nat):Bool:=
  match ops[j]? with
  |some o=>o.after.any fun e=>Region.binds .any e&&Nat.beq e.on k
  |none=>false
def uc (ops:Array Oper):Nat->List Nat->Bool
  |_,[]=>true
  |j,k::r=>Am ops j k&&uc ops k r
def rL (ops:Array Oper) (ca:Array Bool):Prop:=∀j k,Am ops j k=true->ca.getD j false=true->ca.getD k false=true
theorem QS {ops:Array Oper} {j k:Nat} (h:Am ops j k=true):∃o e,ops[j]? =some o/\e∈o.after/\Region.binds .any e=true/\e.on=k:=by
  unfold Am at h
  split at h
  · rename_i o bN
    obtain⟨e,he,an⟩:=Array.any_eq_true'.1 h
    simp only [Bool.and_eq_true] at an
    exact⟨o,e,bN,he,an.1,Nat.eq_of_beq_eq_true an.2⟩
  · cases h
theorem VR {ops:Array Oper} {ca:Array Bool} {j k:Nat} (bZ:j∈Region.ready .any ops ca) (h:Am ops j k=true):ca.getD k false=true:=by
  obtain⟨o,e,bN,he,hb,rfl⟩:=QS h
  obtain⟨_,jw,kI,pw⟩:=mem_ready.1 bZ
  rw [bN] at kI
  cases kI
  exact pw e he hb
theorem aks {ca:Array Bool} {j i:Nat} (h:(ca.setIfInBounds i true).getD j false=true):ca.getD j false=true\/j=i:=by
  by_cases e:i=j
  · exact .inr e.symm
  · left
    rwa [getD_set_ne false e] at h
theorem rL.set {ops:Array Oper} {ca:Array Bool} {i:Nat} (h:rL ops ca) (hi:i∈Region.ready .any ops ca):rL ops (ca.setIfInBounds i true):=fun j k he bZ=>by
  refine getD_set_true ?_
  rcases aks bZ with h1|rfl
  · exact h j k he h1
  · exact VR hi he
theorem rL.path {ops:Array Oper} {ca:Array Bool} (h:rL ops ca):∀(l:List Nat) (j i:Nat),uc ops j l=true->(j::l).getLast?=some i->ca.getD j false=true->ca.getD i false=true
  |
    [],j,i,_,hl,bZ=>by
    simp at hl;subst hl;exact bZ
  |k::r,j,i,bC,hl,bZ=>by
    simp only [uc,Bool.and_eq_true] at bC
    rw [List.getLast?_cons_cons] at hl
    exact h.path r k i bC.2 hl (h j k bC.1 bZ)
section
variable {P:Program} {ops:Array Oper} {cf:Act->World->Prop} {C:World->Prop} {st:Nat}
abbrev ld (cf:Act->World->Prop):Exit->Act->World->Prop:=fun e a w=>e= .normal/\cf a w
def ar (P:Program) (ops:Array Oper) (cf:Act->World->Prop) (st:Nat) (C:World->Prop):Nat->Array Bool->Act->World->Prop
  |
    0,ca,a,w=>Region.ready .any ops ca=[]/\cf a w
  |f+1,ca,a,w=>(Region.ready .any ops ca=[]->cf a w)/\
    ∀i∈Region.ready .any ops ca,wpOp P ops (ld cf) i (fun a1 w'=>((ca.setIfInBounds i true).getD st false=false->C w')/\ar P ops cf st C f (ca.setIfInBounds i true) a1 w') a w
theorem ar.any:∀(f:Nat) (ca:Array Bool) (a:Act) (w:World),ar P ops cf st C f ca a w->wpAny P .any ops (ld cf) f ca a w
  |0,_,_,_,h=>⟨h.1,rfl,h.2⟩
  |f+1,_,_,_,h=>⟨fun h0=>⟨rfl,h.1 h0⟩,fun i hi=>wpOp_mono (fun a1 w' cl=>ar.any f _ a1 w' cl.2) (h.2 i hi)⟩
theorem ar.mono {Oc:World->Prop} (hc:∀w,Oc w->C w):∀(f:Nat) (ca:Array Bool) (a:Act) (w:World),ar P ops cf st Oc f ca a w->ar P ops cf st C f ca a w
  |0,_,_,_,h=>h
  |f+1,_,_,_,h=>⟨h.1,fun i hi=>wpOp_mono (fun a1 w' cl=>⟨fun h0=>hc _ (cl.1 h0),ar.mono hc f _ a1 w' cl.2⟩) (h.2 i hi)⟩
theorem ar.first {i:Nat} {nq:Oper} {v:Value} (hi:ops[i]? =some nq) (Bm:Region.noSelect ops=true) (Tn:ops.size<=st\/∃k l,uc ops st (k::l)=true/\(k::l).getLast?=some i):
    ∀
      (f:Nat) (ca:Array Bool) (a:Act) (w:World),rL ops ca->ca.size<=ops.size->
      (∀j nr,ops[j]? =some nr->j≠i->ca.getD j true=false->(∀e∈nr.after,Region.binds .any e=true->e.on≠i)->nq.apart ops nr=true)->
      i∈Region.ready .any ops ca->YieldsIf P ops C nq v a->C w->
      ar P ops cf st C f (ca.setIfInBounds i true) (a.put nq.dst v) w->ar P ops cf st C (f+1) ca a w:=by
  intro f
  have Kb:∀c a w,ld cf (.panic c) (a.put nq.dst v) w->ld cf (.panic c) a w:=fun _ _ _ h=>(by cases h.1)
  have CX:∀(ca:Array Bool),i∈Region.ready .any ops ca->ca.getD i false=false:=fun ca bp=>by
    have h0:=(mem_ready.1 bp).1
    rcases Nat.lt_or_ge i ca.size with cl|cl
    · simp [cl] at h0 ⊢;exact h0
    · simp [Array.getElem?_eq_none cl]
  have hF:i<ops.size:=(Array.getElem?_eq_some_iff.1 hi).1
  have UE:∀(ca:Array Bool),rL ops ca->i∈Region.ready .any ops ca->∀j,j∈Region.ready .any ops ca->j≠st:=fun ca q2 bp j bZ e=>by
    subst e
    rcases Tn with h|⟨k,l,h1,an⟩
    · obtain⟨_,o,bN,_⟩:=mem_ready.1 bZ
      have:=(Array.getElem?_eq_some_iff.1 bN).1
      omega
    · simp only [uc,Bool.and_eq_true] at h1
      have:=q2.path l k i h1.2 an (VR bZ h1.1)
      rw [CX ca bp] at this
      cases this
  have akz:∀(ca:Array Bool),rL ops ca->ca.size<=ops.size->i∈Region.ready .any ops ca->ca.getD st false=false:=fun ca q2 hH bp=>by
    cases h:ca.getD st false with
    |false=>rfl
    |true=>
      rcases Tn with h0|⟨k,l,h1,an⟩
      · simp [Array.getElem?_eq_none (show ca.size<=st by omega)] at h
      · simp only [uc,Bool.and_eq_true] at h1
        have:=q2.path l k i h1.2 an (q2 st k h1.1 h)
        rw [CX ca bp] at this
        cases this
  induction f with
  |zero=>
    intro ca a w q2 hH _ bp hy bj H
    refine⟨fun h=>(by rw [h] at bp;cases bp),fun j bZ=>?_⟩
    by_cases lr:j=i
    · subst lr;exact hy.wpOp hi bj ⟨fun _=>bj,H⟩
    · have:=ready_mono bZ lr
      rw [H.1] at this
      cases this
  |succ f gj=>
    intro ca a w q2 hH Bb bp hy bj H
    refine⟨fun h=>(by rw [h] at bp;cases bp),fun j bZ=>?_⟩
    by_cases lr:j=i
    · subst lr;exact hy.wpOp hi bj ⟨fun _=>bj,H⟩
    have aeR:=UE ca q2 bp j bZ
    have aeP:=UE ca q2 bp i bp
    have h1:=H.2 j (ready_mono bZ lr)
    obtain⟨Bd,nr,v9,pw⟩:=mem_ready.1 bZ
    have Ka:∀e∈nr.after,Region.binds .any e=true->e.on≠i:=fun e he hb heq=>by
      have an:=pw e he hb
      rw [heq,CX ca bp] at an
      cases an
    have an:=wpOp_putIf v9 (Bb j nr v9 lr Bd Ka) (fun cs b=>Region.noSelect_spec Bm i nq cs b hi) (fun cs b=>Region.noSelect_spec Bm j nr cs b v9) Kb hy h1
    have JN:∀k ok,ops[k]? =some ok->k≠i->(ca.setIfInBounds j true).getD k true=false->(∀e∈ok.after,Region.binds .any e=true->e.on≠i)->nq.apart ops ok=true:=fun k ok hk JT hu J_=>by
      refine Bb k ok hk JT ?_ J_
      by_cases sm:j=k
      · subst sm;exact Bd
      · rwa [getD_set_ne true sm] at hu
    refine wpOp_mono (fun a1 w' aF=>?_) an
    obtain⟨b1,bm,cS⟩:=aF
    have nd:=akz ca q2 hH bp
    have AJ:C w':=bm (by rw [getD_set_ne false aeR,getD_set_ne false aeP];exact nd)
    rw [Array.setIfInBounds_comm _ _ (Ne.symm lr)] at cS
    exact⟨fun _=>AJ,gj (ca.setIfInBounds j true) a1 w' (q2.set bZ) (by simpa using hH) JN (ready_mono bp (Ne.symm lr)) b1 AJ cS⟩
theorem ar.done {ca:Array Bool} {a:Act} {w:World} (bp:Region.ready .any ops ca=[]) (h:cf a w):∀f,ar P ops cf st C f ca a w
  |0=>⟨bp,h⟩
  |_+1=>⟨fun _=>h,by rw [bp];simp⟩
theorem ar.many {rs:List Nat} {f:Nat} {ca:Array Bool} {a:Act} {w:World} (bp:Region.ready .any ops ca=rs) (kH:rs.isEmpty=false)
    (h:∀i∈rs,wpOp P ops (ld cf) i (fun a1 w'=>((ca.setIfInBounds i true).getD st false=false->C w')/\ar P ops cf st C f (ca.setIfInBounds i true) a1 w') a w):ar P ops cf st C (f+1) ca a w:=
  ⟨fun h0=>(by rw [h0] at bp;subst bp;cases kH),bp▸h⟩
theorem ar.one {i f:Nat} {ca:Array Bool} {a:Act} {w:World} (bp:Region.ready .any ops ca=[i])
    (h:wpOp P ops (ld cf) i (fun a1 w'=>((ca.setIfInBounds i true).getD st false=false->C w')/\ar P ops cf st C f (ca.setIfInBounds i true) a1 w') a w):ar P ops cf st C (f+1) ca a w:=
  ar.many bp rfl fun j bZ=>by
    simp only [List.mem_cons,List.not_mem_nil,or_false] at bZ
    subst bZ
    exact h
theorem ar.last {f:Nat} {l:Array Bool} {a:Act} {w:World} (nd:l.getD st false=true) (h:ar P ops cf st C f l a w):(l.getD st false=false->C w)/\ar P ops cf st C f l a w:=
  ⟨fun h0=>(by rw [nd] at h0;cases h0),h⟩
def Qr (ops:Array Oper) (ca:Array Bool):Bool:=
  (List.range ops.size).all fun j=>!ca.getD j false||(match ops[j]? with|some o=>o.after.all fun e=>!Region.binds .any e||ca.getD e.on false|none=>true)
theorem aaE {ca:Array Bool} (h:Qr ops ca=true):rL ops ca:=fun j k he bZ=>by
  obtain⟨o,e,bN,hm,hb,rfl⟩:=QS he
  have eW:j<ops.size:=(Array.getElem?_eq_some_iff.1 bN).1
  have h1:=List.all_eq_true.1 h j (List.mem_range.2 eW)
  rw [bZ,bN] at h1
  simp only [Bool.not_true,Bool.false_or] at h1
  have an:=Array.all_eq_true_iff_forall_mem.1 h1 e hm
  rw [hb] at an
  simpa using an
def Bj (ops:Array Oper) (st:Nat) (ca:Array Bool) (i:Nat) (path:List Nat):Bool:=
  Region.noSelect ops&&Region.free .any ops ca i&&(Region.ready .any ops ca).contains i&&Qr ops ca&&Nat.ble ca.size ops.size&&
    (Nat.ble ops.size st||(match path with|[]=>false|k::l=>uc ops st (k::l)&&(match (k::l).getLast? with|some x=>Nat.beq x i|none=>false)))
end
section
variable {P:Program} {n:Nat} {w0:World} {M:au} {u:World} {N:au} {β:Nat->Nat} {σ σ':b3} {a:Act} {w:World} {ops:Array Oper} {cf:Act->World->Prop} {C:World->Prop} {st:Nat}
structure fh (w0:World) (M:au) (u:World) (N:au) (β:Nat->Nat) (aM:List (List Value)) (w':World):Prop where
  box:∀(k:Nat) (cs:List Value),aM[k]? =some cs->∃T,w'.heap[β k]? =some (.cells cs.toArray T (0,0))
  sep:∀b,N b->b<w'.heap.size/\w'.heap[b]? =u.heap[b]?
  fu:bB M w0 w'
theorem aj.rc (S:aj P n w0 M u N β σ a w):fh w0 M u N β σ.aM w:=⟨S.box,fun b hb=>⟨(S.sep b hb).1,(S.sep b hb).2.1⟩,S.fu⟩
theorem aj.move (S:aj P n w0 M u N β σ a w) {w':World} (h:fh w0 M u N β σ.aM w'):aj P n w0 M u N β σ a w':=
  ⟨S.ml,S.aW,S.env,S.ok,h.box,S.inj,S.new,fun b hb=>⟨(h.sep b hb).1,(h.sep b hb).2,(S.sep b hb).2.2⟩,h.fu,S.k8⟩
theorem aj.dR (S:aj P n w0 M u N β σ a w) {Q:Exit->Act->World->Prop} {id f:Nat} (st:Nat) (hm:P.follows .mixedOrders=true) (bc:ops.size=f)
    (h:∀w',aj P n w0 M u N β σ a w'->ar P ops (fun a w=>Q .normal a w) st (fh w0 M u N β σ.aM) f (Array.replicate f false) a w'):(Code.region id ops true).wp P Q a w:=by
  refine Code.wp_mono (Q:=ld fun a w=>Q .normal a w) (fun e a w a9=>a9.1▸a9.2) (wp_region_any hm ?_)
  rw [bc]
  exact ar.any _ _ _ _ (h _ (S.ext (bB.draw ab w _)))
theorem ar.next {bI:World} {aB:au} {aM:List (List Value)} {f:Nat} {l:Array Bool} (dV:aj P n w0 M bI aB β σ' a w) (up:∀b,N b->aB b/\bI.heap[b]? =u.heap[b]?) (jJ:σ'.aM=aM)
    (h:ar P ops cf st (fh w0 M bI aB β σ'.aM) f l a w):(l.getD st false=false->fh w0 M u N β aM w)/\ar P ops cf st (fh w0 M u N β aM) f l a w:=by
  subst jJ
  have back:∀w',fh w0 M bI aB β σ'.aM w'->fh w0 M u N β σ'.aM w':=fun w' h=>⟨h.box,fun b hb=>⟨(h.sep b (up b hb).1).1,(h.sep b (up b hb).1).2.trans (up b hb).2⟩,h.fu⟩
  exact⟨fun _=>back _ dV.rc,ar.mono back _ _ _ _ h⟩
theorem ar.keep {bI:World} {aB:au} {aM:List (List Value)} {f:Nat} {l:Array Bool} (dV:aj P n w0 M bI aB β σ' a w) (up:∀b,N b->aB b/\bI.heap[b]? =u.heap[b]?) (jJ:σ'.aM=aM)
    (h:ar P ops cf st (fh w0 M u N β aM) f l a w):(l.getD st false=false->fh w0 M u N β aM w)/\ar P ops cf st (fh w0 M u N β aM) f l a w:=by
  subst jJ
  have back:∀w',fh w0 M bI aB β σ'.aM w'->fh w0 M u N β σ'.aM w':=fun w' h=>⟨h.box,fun b hb=>⟨(h.sep b (up b hb).1).1,(h.sep b (up b hb).1).2.trans (up b hb).2⟩,h.fu⟩
  exact⟨fun _=>back _ dV.rc,h⟩
theorem ar.stay {cL:Nat->Nat} {aM:List (List Value)} {f:Nat} {l:Array Bool} (dV:aj P n w0 M u N cL σ' a w) (mB:∀k,k<aM.length->cL k=β k) (jJ:∀(k:Nat) (cs:List Value),aM[k]? =some cs->σ'.aM[k]? =some cs)
    (h:ar P ops cf st (fh w0 M u N cL σ'.aM) f l a w):(l.getD st false=false->fh w0 M u N β aM w)/\ar P ops cf st (fh w0 M u N β aM) f l a w:=by
  have back:∀w',fh w0 M u N cL σ'.aM w'->fh w0 M u N β aM w':=fun w' h=>⟨fun k cs hk=>by
      rw [←mB k (List.getElem?_eq_some_iff.1 hk).1]
      exact h.box k cs (jJ k cs hk),h.sep,h.fu⟩
  exact⟨fun _=>back _ dV.rc,ar.mono back _ _ _ _ h⟩
def cp (n:Nat) (l:List Nat):Array Bool:=l.foldl (fun a i=>a.setIfInBounds i true) (Array.replicate n false)
theorem ar.mH {f:Nat} {l:Array Bool} (h:∀W:Nat->Array Bool->Act->World->Prop,W=ar P ops cf st C->W f l a w):ar P ops cf st C f l a w:=h _ rfl
theorem ar.mj {W:Nat->Array Bool->Act->World->Prop} {f:Nat} {l l':Array Bool} (e:l=l') (h:W f l' a w):W f l a w:=e▸h
theorem me {Q:Exit->Act->World->Prop} {c:Code} (aa:Act->World->Prop) (h:c.wp P (ld aa) a w) (k:∀a w,aa a w->Q .normal a w):c.wp P Q a w:=
  Code.wp_mono (Q:=ld aa) (fun _ a w a9=>a9.1▸k a w a9.2) h
theorem IE {Q:Exit->Act->World->Prop} {dh:Act->World->Prop} {i:Nat} {o:Oper} {claims:List (Ask×Value)} (bN:ops[i]? =some o) (bW:gF P n ops [o] σ (claims.map (·.2))=some (σ',claims)) (a9:fA P u N claims)
    (S:aj P n w0 M u N β σ a w) (K:∀a1 w' cL,aj P n w0 M u N cL σ' a1 w'->(∀k,k<σ.aM.length->cL k=β k)->dh a1 w'):wpOp P ops Q i dh a w:=by
  unfold wpOp
  simp only [bN]
  simp only [gF] at bW
  split at bW
  · cases bW
  · rename_i aJ
    rw [mw S aJ]
    simp only [Bool.false_eq_true,if_false]
    cases bC:σ.put n o.dst (.v undef) with
    |none=>rw [bC] at bW;cases bW
    |some bH=>
      rw [bC] at bW
      simp only [Option.bind_some,Option.some.injEq,Prod.mk.injEq] at bW
      obtain⟨rfl,_⟩:=bW
      exact K _ _ _ (S.put bC (fun _ _ e=>by cases e)) (fun _ _=>rfl)
  · rename_i aJ
    rw [mw S aJ]
    simp only [if_true]
    left
    unfold Oper.wp
    split at bW
    · cases bW
    · rename_i x hx
      obtain⟨h1,an⟩:=l_ S hx
      rw [h1]
      simp only [Oper.upon]
      cases bC:σ.put n o.dst x with
      |none=>rw [bC] at bW;cases bW
      |some bH=>
        rw [bC] at bW
        simp only [Option.bind_some,Option.some.injEq,Prod.mk.injEq] at bW
        obtain⟨rfl,_⟩:=bW
        exact K _ _ _ (S.put bC an) (fun _ _=>rfl)
    · rename_i q hx
      have h1:=l_ S hx
      split at bW
      · cases bW
      · rename_i v c7 he
        cases bC:σ.put n o.dst (.v v) with
        |none=>rw [bC] at bW;cases bW
        |some bH=>
          rw [bC] at bW
          simp only [Option.bind_some,Option.map_some,Option.some.injEq,Prod.mk.injEq] at bW
          obtain⟨rfl,cB⟩:=bW
          subst cB
          have ij:=S.put bC (fun _ _ e=>by cases e)
          cases q with
          |call f args=>
            simp only [zK] at h1
            rw [h1,Oper.upon_enter]
            refine(a9.1 w (fun b hb=>⟨(S.sep b hb).1,(S.sep b hb).2.1⟩)).mono fun e w' ⟨aF,b1⟩=>?_
            subst aF
            exact K _ _ _ (ij.ext b1) (fun _ _=>rfl)
          |_=>
            have an:=h1 v (a9.1 w (fun b hb=>(S.sep b hb).2.1))
            rw [an]
            exact K _ _ _ ij (fun _ _=>rfl)
    · rename_i T cs hx
      have h1:=l_ S hx
      rw [h1]
      simp only [Oper.upon]
      have iv:=S.push cs T
      cases bC:b3.put n ⟨σ.env,σ.aM++[cs]⟩ o.dst (.p σ.aM.length 0) with
      |none=>rw [bC] at bW;cases bW
      |some bH=>
        rw [bC] at bW
        simp only [Option.bind_some,Option.some.injEq,Prod.mk.injEq] at bW
        obtain⟨rfl,_⟩:=bW
        have zI:=iv.put bC (fun k o e=>by cases e;simp)
        have e:(eQ.p σ.aM.length 0).val (fun k=>if k=σ.aM.length then w.heap.size else β k)=bh w.heap.size 0:=by simp [eQ.val]
        rw [e] at zI
        exact K _ _ _ zI (fun k hk=>by simp [Nat.ne_of_lt hk])
    · rename_i k cs hx
      obtain⟨h1,k8,an⟩:=l_ S hx
      rw [h1]
      simp only [Oper.upon]
      split at bW
      · rename_i hd
        rw [hd]
        simp only [Option.some.injEq,Prod.mk.injEq] at bW
        obtain⟨rfl,_⟩:=bW
        exact K _ _ _ (S.Vu an) (fun _ _=>rfl)
      · cases bW
theorem Q4 {i:Nat} {c7:List Value} {claims:List (Ask×Value)} {keep:List Nat} {m:Nat} (h:nN P n ops i 1 σ c7 keep m=some (σ',claims)):
    ∃o bH,ops[i]? =some o/\gF P n ops [o] σ c7=some (bH,claims)/\σ'=⟨bH.keep m keep,bH.aM.take m⟩:=by
  unfold nN at h
  cases hb:Nat.ble (i+1) ops.size with
  |false=>rw [hb] at h;cases h
  |true=>
    rw [hb] at h
    have hle:i+1<=ops.size:=Nat.le_of_ble_eq_true hb
    have bN:ops[i]? =some ops[i]:=Array.getElem?_eq_getElem (by omega)
    have hl:(ops.toList.drop i).take 1=[ops[i]]:=by
      rw [List.drop_eq_getElem_cons (show i<ops.toList.length by simp;omega)]
      simp
    simp only [cond_true,hl] at h
    cases bp:gF P n ops [ops[i]] σ c7 with
    |none=>rw [bp] at h;cases h
    |some r=>
      rw [bp] at h
      simp only [Option.map_some,Option.some.injEq,Prod.mk.injEq] at h
      exact⟨_,r.1,bN,by rw [bp,←h.2],h.1.symm⟩
theorem aj.N3 (S:aj P n w0 M u N β σ a w) (m:Nat) (keep:List Nat):aj P n w0 M u N β ⟨σ.keep m keep,σ.aM.take m⟩ a w:=
  S.weaken m keep fun t fz jw h=>by
    have h1:=sy m keep t _ h
    have an:=S.ok t fz jw h1.1
    have aF:=h1.2 fz jw rfl
    simp;omega
theorem aj.V_ {Q:Exit->Act->World->Prop} {dh:Act->World->Prop} (S:aj P n w0 M u N β σ a w) {i:Nat} {claims:List (Ask×Value)} {keep:List Nat} {m:Nat} (a9:fA P u N claims)
    (bW:nN P n ops i 1 σ (claims.map (·.2)) keep m=some (σ',claims)) (K:∀a1 w' cL,aj P n w0 M u N cL σ' a1 w'->(∀k,k<σ.aM.length->cL k=β k)->dh a1 w'):wpOp P ops Q i dh a w:=by
  obtain⟨o,bH,bN,he,rfl⟩:=Q4 bW
  exact IE bN he a9 S fun a1 w' cL dV mB=>K a1 w' cL (dV.N3 m keep) mB
def zQ (P:Program) (ops:Array Oper) (σ:b3) (i:Nat):Bool:=
  match ops[i]? with
  |some o=>
    match oy ops σ o with
    |some false=>true
    |some true=>
      match tZ P σ o with
      |some (.val _)=>true
      |some (.ask (.call _ _))=>false
      |some (.ask _)=>true
      |_=>false
    |none=>false
  |none=>false
theorem aj.hoist (S:aj P n w0 M u N β σ a w) {i f:Nat} {ca:Array Bool} {path:List Nat} {claims:List (Ask×Value)} {keep:List Nat} {m:Nat} (aX:Bj ops st ca i path=true) (qi:zQ P ops σ i=true)
    (a9:fA P u N claims) (bW:nN P n ops i 1 σ (claims.map (·.2)) keep m=some (σ',claims))
    (K:∀a1,aj P n w0 M u N β σ' a1 w->ar P ops cf st (fh w0 M u N β σ.aM) f (ca.setIfInBounds i true) a1 w):ar P ops cf st (fh w0 M u N β σ.aM) (f+1) ca a w:=by
  obtain⟨o,bH,bN,he,rfl⟩:=Q4 bW
  simp only [Bj,Bool.and_eq_true,Bool.or_eq_true] at aX
  obtain⟨⟨⟨⟨⟨hP,m2⟩,p0⟩,pb⟩,dQ⟩,Hy⟩:=aX
  have bC:ops.size<=st\/∃k l,uc ops st (k::l)=true/\(k::l).getLast?=some i:=by
    rcases Hy with h|h
    · exact .inl (Nat.le_of_ble_eq_true h)
    · right
      split at h
      · cases h
      · rename_i k l
        simp only [Bool.and_eq_true] at h
        obtain⟨h1,an⟩:=h
        split at an
        · rename_i x hx
          exact⟨k,l,h1,by rw [hx,Nat.eq_of_beq_eq_true an]⟩
        · cases an
  have fin:∀v,YieldsIf P ops (fh w0 M u N β σ.aM) o v a->aj P n w0 M u N β bH (a.put o.dst v) w->ar P ops cf st (fh w0 M u N β σ.aM) (f+1) ca a w:=fun v hy iv=>
    ar.first bN hP bC f ca a w (aaE pb) (Nat.le_of_ble_eq_true dQ) (Region.free_spec bN m2) (by simpa using p0) hy S.rc (K _ (iv.N3 m keep))
  unfold zQ at qi
  rw [bN] at qi
  simp only [gF] at he
  split at he
  · cases he
  · rename_i aJ
    cases ij:σ.put n o.dst (.v undef) with
    |none=>rw [ij] at he;cases he
    |some GF=>
      rw [ij] at he
      simp only [Option.bind_some,Option.some.injEq,Prod.mk.injEq] at he
      obtain⟨rfl,_⟩:=he
      exact fin undef (.inr ⟨mw S aJ,rfl⟩) (S.put ij (fun _ _ e=>by cases e))
  · rename_i aJ
    simp only [aJ] at qi
    have hw:=mw S aJ
    split at he
    · cases he
    · rename_i x hx
      cases ij:σ.put n o.dst x with
      |none=>rw [ij] at he;cases he
      |some GF=>
        rw [ij] at he
        simp only [Option.bind_some,Option.some.injEq,Prod.mk.injEq] at he
        obtain⟨rfl,_⟩:=he
        exact fin (x.val β) (.inl ⟨hw,fun w' h=>(l_ (S.move h) hx).1⟩) (S.put ij (l_ S hx).2)
    · rename_i q hx
      split at he
      · cases he
      · rename_i v c7 hc
        cases ij:σ.put n o.dst (.v v) with
        |none=>rw [ij] at he;cases he
        |some GF=>
          rw [ij] at he
          simp only [Option.bind_some,Option.map_some,Option.some.injEq,Prod.mk.injEq] at he
          obtain⟨rfl,cB⟩:=he
          subst cB
          refine fin v (.inl ⟨hw,fun w' h=>?_⟩) (S.put ij (fun _ _ e=>by cases e))
          have dV:=S.move h
          have h1:=l_ dV hx
          cases q with
          |call g args=>simp only [hx] at qi;cases qi
          |_=>exact h1 v (a9.1 w' (fun b hb=>(dV.sep b hb).2.1))
    · rename_i T cs hx
      simp only [hx] at qi
      cases qi
    · rename_i k cs hx
      simp only [hx] at qi
      cases qi
end
end Go.Proofs.YtjlocpdfcanlhaaGreat
