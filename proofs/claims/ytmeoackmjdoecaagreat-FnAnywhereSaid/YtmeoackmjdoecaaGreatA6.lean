/- The walks: what each function that the laws reach computes (part 3). -/
import Derived.Test.YtmeoackmjdoecaaGreatA5
import Derived.Test.YtmeoackmjdoecaaGreatProg
import Derived.KernelRfl
namespace Go.Proofs.YtmeoackmjdoecaaGreat
open Go
set_option linter.unusedVariables false
set_option linter.unusedSimpArgs false
set_option maxRecDepth 100000
set_option maxHeartbeats 2000000
theorem Yr (w0:World) (xs:List aZ) (cn:af aZ) (aV:Nat) (mf:aV<xs.length) (F:aw) (hx:GT.own bz F w0 xs cn) (eb:∀b,F b->b<w0.heap.size) (g:Int) (want:Int) (jh:0<=g/\g<(el xs aV).U.length) (oM:want=5\/want=7):Calls Tryz.prog 74 [aM cn.1.b (cn.1.off+aV*9),R g,R want].toArray w0 (FQ F cn w0 (xs.set aV (kG (el xs aV) g (el (el xs aV).U g.toNat) want))):=by
 refine Calls.run F Tryz.func74 ?_
 intro ac β S
 have cC:ai w0 F w0 (ga w0.heap.size) F xs ((cn.1,cn.2):af aZ):=⟨hx,eb,fun b hb=> .inr hb⟩
 have aeK:xs.length<=4194304:=jU.le hx
 have sn:g.toNat<(el xs aV).U.length:=by omega
 have RN:aq (el xs aV).owned:=bn.owned (d:=(el xs aV)) (ag.el cC.al aV mf)
 refine S.a8 23 (.cons (g7 cC.al (t:=68) (k:=aV) (j:=3) (v:=ab (el xs aV).U.length (cn.2 aV).U.1) mf (by kernel_rfl) (by kernel_rfl)) (.cons (cP (bn.U (d:=(el xs aV)) (ag.el cC.al aV mf)) g Tryz.underlying68) (.cons (dR (bn.U (d:=(el xs aV)) (ag.el cC.al aV mf)) 102 g.toNat) (.cons (g7 cC.al (t:=3) (k:=aV) (j:=6) (v:=R (el xs aV).bQ) mf (by kernel_rfl) (by kernel_rfl)) (.cons (aY fun w hw=>On w want) (.cons (aY fun w hw=>Ye w (el xs aV).bQ (el (el xs aV).U g.toNat).bH.bQ (lF want)) .nil)))))) ((mM (el xs aV).bQ (el (el xs aV).U g.toNat).bH.bQ (lF want))==1) (fun ac w β h1 bM S=>?_) (fun ac w β h1 bM S=>?_)
 ·clear h1
  refine S.go 2 .nil fun ac w β S=>?_
  refine dj ?_
  refine S.df (f:=10) 9 (by kernel_rfl) (by kernel_rfl) fun w S=>?_
  refine S.aI 0 [0] [] [(27,.v (aM cn.1.b (cn.1.off+aV*9)))] .nil fun ac S=>?_
  refine S.aI 1 [1] [] [(28,.v (aM cn.1.b (cn.1.off+aV*9)))] .nil fun ac S=>?_
  refine S.aI 2 [2] [] [(29,.v (aM cn.1.b (cn.1.off+aV*9+3)))] .nil fun ac S=>?_
  refine S.aI 3 [3] [] [(30,.v (ab (el xs aV).U.length (cn.2 aV).U.1))] (.cons (g7 cC.al (t:=68) (k:=aV) (j:=3) (v:=ab (el xs aV).U.length (cn.2 aV).U.1) mf (by kernel_rfl) (by kernel_rfl)) .nil) fun ac S=>?_
  refine S.aI 4 [4] [] [(31,.v (R g))] .nil fun ac S=>?_
  refine S.aI 5 [5] [] [(32,.v (GT.val (el (el xs aV).U g.toNat) ((cn.2 aV).U.2 g.toNat)))] .nil fun ac S=>?_
  refine S.aI 6 [6] [] [(33,.v (R want))] .nil fun ac S=>?_
  refine ao.one (i:=7) (by kernel_rfl) ?_
  refine id (S.cH 34 (Oo w (el (el xs aV).U g.toNat) ((cn.2 aV).U.2 g.toNat) (S.rd (ag.el (bn.U (d:=(el xs aV)) (ag.el cC.al aV mf)) g.toNat sn)) want) fun ac w N ae y7 S up A8 zC=>?_)
  refine ao.next S up (by kernel_rfl) ?_
  have tx:=J.w zC cC.sub
  replace cC:=cC.up up
  refine S.aI 8 [8] [] [(34,.v (GT.val (oq (el (el xs aV).U g.toNat) want) ae)),(35,.v (aM (cn.2 aV).U.1.b ((cn.2 aV).U.1.off+g.toNat*15)))] (.cons (cP (bn.U (d:=(el xs aV)) (ag.el cC.al aV mf)) g Tryz.underlying68 (hi:=sn)) .nil) fun ac S=>?_
  refine ao.one (i:=9) (by kernel_rfl) ?_
  obtain⟨Nb,uz,BC,zl⟩:=xL cC (k:=aV) mf
  have AW:=uz.sub
  refine id (S.n4 (α:=az) uz (t:=102) (k:=g.toNat) (off:=(cn.2 aV).U.1.off+g.toNat*15) A8 (J.part tx BC) (hk:=sn) fun w N Nf Uj S up A_ OW BE AX=>?_)
  refine ao.last (by kernel_rfl) ?_
  obtain⟨TX,Ba,NV⟩:=zl _ _ _ _ _ y7 up A_ BE tx (by show [ab _ _]=[ab _ _];rw [List.length_set]) (fun b h=>AX b (AW b h))
  replace S:=S.z (σ':=⟨[(34,.v (GT.val (oq (el (el xs aV).U g.toNat) want) ae))],[GT.cells (el (el xs aV).U g.toNat) ((cn.2 aV).U.2 g.toNat)]⟩)
  refine ao.done (by kernel_rfl) ?_ _
  refine S.ex fun S=>?_
  refine S.aP 2 .nil [] fun ac w β S=>?_
  exact LV S (show(xs.set aV (kG (el xs aV) g (el (el xs aV).U g.toNat) want))=(xs.set aV ({el xs aV with U:=(el xs aV).U.set g.toNat (oq (el (el xs aV).U g.toNat) want)})) from agd oM bM) Ba
 refine S.go 4 .nil fun ac w β S=>?_
 refine m6 S (fun ac w=>∃(fp:Int) (i_:Nat->g6) (F1:aw) (u:_) (N:_) (β:_),fp=o7 (el xs aV) (el (el xs aV).U g.toNat) want/\aj Tryz.prog Tryz.f74.ntmps w0 F u N β ⟨[(0,.v (aM cn.1.b (cn.1.off+aV*9))),(1,.v (R g)),(2,.v (R want)),(6,.p 0 0)],[GT.cells (el (el xs aV).U g.toNat) ((cn.2 aV).U.2 g.toNat)]⟩ ac w/\ai w0 F u N F1 (xs.set aV ({el xs aV with owned:=fp}:aZ)) ((cn.1,i_):af aZ)/\i_ aV=cn.2 aV) ?_ ?_
 ·clear S;intro S
  refine S.a8 5 .nil ((mM (el xs aV).bQ (el (el xs aV).U g.toNat).bH.bQ (lF want))==2) (fun ac w β aE c3 S=>?_) (fun ac w β aE c3 S=>?_)
  ·refine S.a8 8 (.cons (g7 cC.al (t:=3) (k:=aV) (j:=8) (v:=R (el xs aV).owned) mf (by kernel_rfl) (by kernel_rfl)) .nil) (decide ((el xs aV).owned<1000000000)) (fun ac w β b2 ej S=>?_) (fun ac w β b2 ej S=>?_)
   ·refine S.go 9 (.cons (g7 cC.al (t:=3) (k:=aV) (j:=8) (v:=R (el xs aV).owned) mf (by kernel_rfl) (by kernel_rfl)) (.cons (cO ((el xs aV).owned) 1 ⟨by have:=RN.b9;omega,by omega⟩) .nil)) fun ac w β S=>S.WK (α:=aZ) (Fy:=aa) (t:=3) (k:=aV) (j:=8) (off:=cn.1.off+aV*9+8) (v:=R ((el xs aV).owned+1)) (y:=({el xs aV with owned:=(el xs aV).owned+1}:aZ)) (q:=cn.2 aV) cC mf (show 8+1<=9 by decide) (fun G ha _=>⟨G,aiU ha (⟨by have:=RN.b9;omega,by omega⟩),fun _ h=> .inl h⟩) J.AZ.symm (fun _ h=>False.elim h) (fun _ h=>False.elim h) fun w N b1 S up o d s n=>?_
    exact S.e5 30 .nil fun ac w β S=>⟨rfl,(el xs aV).owned+1,_,b1,_,_,_,(aiN oM c3 ej).symm,S.z,o,if_pos rfl⟩
   exact S.e5 30 .nil fun ac w β S=>⟨rfl,(el xs aV).owned,cn.2,F,_,_,_,(Lm (.inr ej)).symm,S.z,by rw [UP mf];exact cC,rfl⟩
  exact S.e5 30 .nil fun ac w β S=>⟨rfl,(el xs aV).owned,cn.2,F,_,_,_,(Lm (.inl c3)).symm,S.z,by rw [UP mf];exact cC,rfl⟩
 clear S cC
 rintro ac w ⟨fp,i_,F1,u,N,β,DE,S,cC,ae1⟩
 obtain⟨X,jw⟩:∃X,X=xs.set aV ({el xs aV with owned:=fp}:aZ):=⟨_,rfl⟩
 rw [←jw] at cC
 have apa:X.length=xs.length:=by rw [jw,List.length_set]
 have pq:aV<X.length:=by omega
 have he:el X aV=({el xs aV with owned:=fp}:aZ):=by rw [jw,fg mf]
 have DA:(el X aV).U=(el xs aV).U:=by rw [he]
 have qj:(i_ aV).U=(cn.2 aV).U:=by rw [ae1]
 have Rl:g.toNat<(el X aV).U.length:=by rw [DA];exact sn
 refine S.ex fun S=>?_
 refine S.a8 8 .nil (want==7) (fun ac w β cf gb S=>?_) (fun ac w β cf gb S=>?_)
 ·clear cf
  refine S.go 2 .nil fun ac w β S=>?_
  refine dj ?_
  refine S.df (f:=9) 8 (by kernel_rfl) (by kernel_rfl) fun w S=>?_
  refine S.aI 0 [0] [] [(54,.v (aM cn.1.b (cn.1.off+aV*9)))] .nil fun ac S=>?_
  refine S.aI 1 [1] [] [(55,.v (aM cn.1.b (cn.1.off+aV*9)))] .nil fun ac S=>?_
  refine S.aI 2 [2] [] [(56,.v (aM cn.1.b (cn.1.off+aV*9+3)))] .nil fun ac S=>?_
  refine S.aI 3 [3] [] [(57,.v (ab (el X aV).U.length (i_ aV).U.1))] (.cons (g7 cC.al (t:=68) (k:=aV) (j:=3) (v:=ab (el X aV).U.length (i_ aV).U.1) pq (by kernel_rfl) (by kernel_rfl)) .nil) fun ac S=>?_
  refine S.aI 4 [4] [] [(58,.v (R g))] .nil fun ac S=>?_
  refine S.aI 5 [5] [] [(59,.v (GT.val (el (el xs aV).U g.toNat) ((cn.2 aV).U.2 g.toNat)))] .nil fun ac S=>?_
  refine ao.one (i:=6) (by kernel_rfl) ?_
  refine id (S.cH 60 (F_ w (el (el xs aV).U g.toNat) ((cn.2 aV).U.2 g.toNat) (S.rd (ES cC DA qj pq sn))) fun ac w N ae y7 S up A8 zC=>?_)
  refine ao.next S up (by kernel_rfl) ?_
  have tx:=J.w zC cC.sub
  replace cC:=cC.up up
  refine S.aI 7 [7] [] [(60,.v (GT.val (iN (el (el xs aV).U g.toNat)) ae)),(61,.v (aM (i_ aV).U.1.b ((i_ aV).U.1.off+g.toNat*15)))] (.cons (cP (bn.U (d:=(el X aV)) (ag.el cC.al aV pq)) g Tryz.underlying68 (hi:=Rl)) .nil) fun ac S=>?_
  refine ao.one (i:=8) (by kernel_rfl) ?_
  obtain⟨Nb,uz,BC,zl⟩:=xL cC (k:=aV) pq
  have AW:=uz.sub
  refine id (S.n4 (α:=az) uz (t:=102) (k:=g.toNat) (off:=(i_ aV).U.1.off+g.toNat*15) A8 (J.part tx BC) (hk:=Rl) fun w N Nf Uj S up A_ OW BE AX=>?_)
  refine ao.last (by kernel_rfl) ?_
  obtain⟨TX,Ba,NV⟩:=zl _ _ _ _ _ y7 up A_ BE tx (by show [ab _ _]=[ab _ _];rw [List.length_set]) (fun b h=>AX b (AW b h))
  replace S:=S.z (σ':=⟨[(60,.v (GT.val (iN (el (el xs aV).U g.toNat)) ae))],[GT.cells (el (el xs aV).U g.toNat) ((cn.2 aV).U.2 g.toNat)]⟩)
  refine ao.done (by kernel_rfl) ?_ _
  refine S.ex fun S=>?_
  refine S.aP 2 .nil [] fun ac w β S=>?_
  exact LV S (show(xs.set aV (kG (el xs aV) g (el (el xs aV).U g.toNat) want))=(X.set aV ({el X aV with U:=(el X aV).U.set g.toNat (iN (el (el xs aV).U g.toNat))})) from agb jw he DE bM gb) Ba
 have afl:want=5:=by omega
 have Jc:(el X aV).outs=(el xs aV).outs:=by rw [he]
 refine S.go 4 .nil fun ac w β S=>?_
 refine m6 S (fun ac w=>∃(os:List Int) (mm:Nat->g6) (aX:aw) (u:_) (N:_) (β:_),os=(if(el xs aV).outs.length<40 then(el xs aV).outs++[(dk (el (el xs aV).U g.toNat).prog (el (el xs aV).U g.toNat).aN).x] else(el xs aV).outs)/\aj Tryz.prog Tryz.f74.ntmps w0 F u N β ⟨[(0,.v (aM cn.1.b (cn.1.off+aV*9))),(1,.v (R g)),(6,.p 0 0)],[GT.cells (el (el xs aV).U g.toNat) ((cn.2 aV).U.2 g.toNat)]⟩ ac w/\ai w0 F u N aX (xs.set aV ({el xs aV with owned:=fp,outs:=os}:aZ)) ((cn.1,mm):af aZ)/\(mm aV).U=(cn.2 aV).U) ?_ ?_
 ·clear S;intro S
  have r1:(el X aV).outs.length<=4194304:=ag.le (bn.outs (d:=(el X aV)) (ag.el cC.al aV pq))
  refine S.a8 10 (.cons (g7 cC.al (t:=28) (k:=aV) (j:=4) (v:=ab (el X aV).outs.length (i_ aV).outs.1) pq (by kernel_rfl) (by kernel_rfl)) .nil) (decide (((el X aV).outs.length:Int)<40)) (fun ac w β dU gn S=>?_) (fun ac w β dU gn S=>?_)
  ·refine S.go 1 .nil fun ac w β S=>?_
   refine dj ?_
   let mu:bw:=⟨[(0,.v (aM cn.1.b (cn.1.off+aV*9))),(1,.v (R g)),(6,.p 0 0),(67,.v (B true))],[GT.cells (el (el xs aV).U g.toNat) ((cn.2 aV).U.2 g.toNat)]⟩
   obtain⟨ba,a_,bg,S,cC⟩:∃ba a_ bg,aj Tryz.prog Tryz.f74.ntmps w0 F ba a_ bg mu ac w/\ai w0 F ba a_ F1 X ((cn.1,i_):af aZ):=⟨_,_,_,S.z,cC⟩
   refine lT (fun ac w=>∃(mm:Nat->g6) (B0:aw) (u:_) (N:_) (β:_),aj Tryz.prog Tryz.f74.ntmps w0 F u N β ⟨[(0,.v (aM cn.1.b (cn.1.off+aV*9))),(1,.v (R g)),(6,.p 0 0)],[GT.cells (el (el xs aV).U g.toNat) ((cn.2 aV).U.2 g.toNat)]⟩ ac w/\ai w0 F u N B0 (X.set aV (({el X aV with outs:=((el X aV).outs++[(dk (el (el xs aV).U g.toNat).prog (el (el xs aV).U g.toNat).aN).x])}):aZ)) ((cn.1,mm):af aZ)/\(mm aV).U=(i_ aV).U) ?_ ?_
   ·refine S.df (f:=16) 12 (by kernel_rfl) (by kernel_rfl) fun w S=>?_
    refine S.aI 1 [4,3,2,1] [] [(69,.v (aM cn.1.b (cn.1.off+aV*9)))] .nil fun ac S=>?_
    refine S.aI 2 [4,3,2] [] [(70,.v (aM cn.1.b (cn.1.off+aV*9)))] .nil fun ac S=>?_
    refine S.aI 3 [4,3] [] [(71,.v (aM cn.1.b (cn.1.off+aV*9+4)))] .nil fun ac S=>?_
    refine S.aI 4 [4] [] [(72,.v (ab (el X aV).outs.length (i_ aV).outs.1))] (.cons (g7 cC.al (t:=28) (k:=aV) (j:=4) (v:=ab (el X aV).outs.length (i_ aV).outs.1) pq (by kernel_rfl) (by kernel_rfl)) .nil) fun ac S=>?_
    refine S.aI 5 [9,6,5] [] [(73,.p 0 0)] .nil fun ac S=>?_
    refine S.aI 6 [9,6] [] [(74,.v (ab (el (el xs aV).U g.toNat).prog.length ((cn.2 aV).U.2 g.toNat).prog.1))] .nil fun ac S=>?_
    refine S.aI 7 [9,8,7] [] [(75,.p 0 2)] .nil fun ac S=>?_
    refine S.aI 8 [9,8] [] [(76,.v (R (el (el xs aV).U g.toNat).aN))] .nil fun ac S=>?_
    refine ao.mh fun W aO=>?_
    refine ao.l0 (l':=cc 16 [1,2,3,4,5,6,7,8]) (by kernel_rfl) ?_
    have adb ac w (mm:Nat->g6) B0 u N β (S:aj Tryz.prog Tryz.f74.ntmps w0 F u N β ⟨[(0,.v (aM cn.1.b (cn.1.off+aV*9))),(1,.v (R g)),(6,.p 0 0)],[GT.cells (el (el xs aV).U g.toNat) ((cn.2 aV).U.2 g.toNat)]⟩ ac w) (qm:ai w0 F u N B0 (X.set aV (({el X aV with outs:=((el X aV).outs++[(dk (el (el xs aV).U g.toNat).prog (el (el xs aV).U g.toNat).aN).x])}):aZ)) ((cn.1,mm):af aZ)) (sv:(mm aV).U=(i_ aV).U):W 0 (cc 16 [0,1,2,3,4,5,6,7,8,9,10,11,12,13,14,15]) ac w:=by
     exact mi aO ⟨rfl,mm,B0,_,_,_,S.z,qm,sv⟩
    have ade ac w T9 M0 u N β (S:aj Tryz.prog Tryz.f74.ntmps w0 F u N β (mu.dl [67] [(68,.v (aM cn.1.b (cn.1.off+aV*9))),(72,.v (ab (el X aV).outs.length (i_ aV).outs.1)),(79,.v (ab 1 T9.1))] 1 []) ac w) (cC:ai w0 F u N F1 X ((cn.1,i_):af aZ)) (Ep:ai w0 F u N M0 ([(dk (el (el xs aV).U g.toNat).prog (el (el xs aV).U g.toNat).aN).x]) T9) (d146:J F1 M0) (an:cZ a_ ba N u) (aL:cr mu.ay.length bg β):W 4 (cc 16 [0,1,2,3,4,5,6,7,8,9,10,11]) ac w:=by
     refine eJ aO 12 ?_
     have anh:(el X aV).outs.length<=4194304:=ag.le (bn.outs (d:=(el X aV)) (ag.el cC.al aV pq))
     refine id (S.WW cC aV Ep.al (by':=8) (d:=80) pq (show(el X aV).outs.length+([(dk (el (el xs aV).U g.toNat).prog (el (el xs aV).U g.toNat).aN).x]).length<=4194304 by simp only [List.length_cons,List.length_nil];omega) fun ac w N yI Vu S up KZ ar3 alX MT agL alY=>?_)
     refine ao.b8 fun bx=>?_
     have d160:=MT _ Ep.sub
     have d161:=MT _ cC.sub
     replace Ep:=Ep.bp (J.symm d146) up
     clear up MT cC
     refine S.dp (σ':=⟨[(0,.v (aM cn.1.b (cn.1.off+aV*9))),(1,.v (R g)),(6,.p 0 0),(80,.v (ab ((el X aV).outs++[(dk (el (el xs aV).U g.toNat).prog (el (el xs aV).U g.toNat).aN).x]).length yI.1)),(82,.v (aM cn.1.b (cn.1.off+aV*9+4)))],[GT.cells (el (el xs aV).U g.toNat) ((cn.2 aV).U.2 g.toNat)]⟩) (f:=1) (l2:=cc 16 [0,1,2,3,4,5,6,7,8,9,10,11,12,13,14]) aO [13,14] bx fun _ S=>?_
     refine eJ aO 15 ?_
     refine id (aj.qz S (hx:=KZ) (t:=28) (k:=aV) (j:=4) (off:=cn.1.off+aV*9+4) (v:=ab ((el X aV).outs++[(dk (el (el xs aV).U g.toNat).prog (el (el xs aV).U g.toNat).aN).x]).length yI.1) (y:=({el X aV with outs:=((el X aV).outs++[(dk (el (el xs aV).U g.toNat).prog (el (el xs aV).U g.toNat).aN).x])}:aZ)) (q:=({i_ aV with outs:=yI}:g6)) (hop:=by kernel_rfl) (hoff:=by kernel_rfl) (hk:=pq) (hs:=by kernel_rfl) (hpl:=by kernel_rfl) (hjw:=show 4+1<=9 by decide) (hc:=by kernel_rfl) (hy:=alX) (hd:=d161) (hyN:=agL) (hyY:=alY) (K:=fun w N Vv S up ahf d165 ar6 arn=>?_))
     refine ao.b8 fun bx=>?_
     replace S:=S.z (σ':=⟨[(0,.v (aM cn.1.b (cn.1.off+aV*9))),(1,.v (R g)),(6,.p 0 0)],[GT.cells (el (el xs aV).U g.toNat) ((cn.2 aV).U.2 g.toNat)]⟩)
     exact S.dp aO [] bx fun _ S=>adb _ _ _ Vv _ _ _ S ahf (by simp)
    have adh ac w u N β (S:aj Tryz.prog Tryz.f74.ntmps w0 F u N β (mu.dl [67] [(68,.v (aM cn.1.b (cn.1.off+aV*9))),(72,.v (ab (el X aV).outs.length (i_ aV).outs.1)),(78,.v (R (dk (el (el xs aV).U g.toNat).prog (el (el xs aV).U g.toNat).aN).x))] 1 []) ac w) (cC:ai w0 F u N F1 X ((cn.1,i_):af aZ)) (an:cZ a_ ba N u) (aL:cr mu.ay.length bg β):W 5 (cc 16 [0,1,2,3,4,5,6,7,8,9,10]) ac w:=by
     refine eJ aO 11 ?_
     refine id (S.pT (α:=Int) (x:=(dk (el (el xs aV).U g.toNat).prog (el (el xs aV).U g.toNat).aN).x) (p:=()) (F:=aa) (k9.x (d:=(dk (el (el xs aV).U g.toNat).prog (el (el xs aV).U g.toNat).aN)) (sA (a5.prog (d:=(el (el xs aV).U g.toNat)) (ES cC DA qj pq sn)) (el (el xs aV).U g.toNat).aN)) (fun b h=>False.elim h) (fun b h=>False.elim h) (d:=79) (by kernel_rfl) fun ac w N LH Fx S up K1 d173=>?_)
     have Aj:=fun b h=>(⟨(up b (an b h).1).1,(up b (an b h).1).2.trans (an b h).2⟩:_/\_)
     refine ao.dA S Aj aL fun bx=>?_
     have d175:=d173 _ (fun b _ h=>False.elim h) cC.sub
     replace cC:=cC.up up
     clear up d173
     exact S.dp aO [] bx fun _ S=>ade _ _ LH Fx _ _ _ S cC K1 d175 Aj aL
    have HR ac w u N β (S:aj Tryz.prog Tryz.f74.ntmps w0 F u N β (mu.dl [67] [(68,.v (aM cn.1.b (cn.1.off+aV*9))),(72,.v (ab (el X aV).outs.length (i_ aV).outs.1)),(74,.v (ab (el (el xs aV).U g.toNat).prog.length ((cn.2 aV).U.2 g.toNat).prog.1)),(76,.v (R (el (el xs aV).U g.toNat).aN))] 1 []) ac w) (cC:ai w0 F u N F1 X ((cn.1,i_):af aZ)) (an:cZ a_ ba N u) (aL:cr mu.ay.length bg β):W 7 (cc 16 [0,1,2,3,4,5,6,7,8]) ac w:=by
     exact eJ aO 9 (S.fv aO an aL [10] (.cons (aY fun w hw=>vg w (el (el xs aV).U g.toNat).prog ((cn.2 aV).U.2 g.toNat).prog (cQ (a5.prog (d:=(el (el xs aV).U g.toNat)) (ES cC DA qj pq sn)) hw) (el (el xs aV).U g.toNat).aN) .nil) fun _ _ _ S bU=>adh _ _ _ _ _ S cC an bU)
    rw [aO]
    exact S.dp aO [0] (fun _=>S.Bn) fun _ S=>HR _ _ _ _ _ S cC (fun _ h=>⟨h,rfl⟩) (fun _ _=>rfl)
   clear S cC
   rintro ac w ⟨mm,aX,u,N,β,S,eX,sv⟩
   refine S.ex fun S=>?_
   rw [Jc] at eX
   exact S.e5 30 .nil fun ac w β S=>⟨rfl,_,mm,aX,_,_,_,(if_pos (by rw [←Jc];omega)).symm,S.z,by rw [he,jw,List.set_set] at eX;exact eX,sv.trans qj⟩
  exact S.e5 30 .nil fun ac w β S=>⟨rfl,_,i_,F1,_,_,_,(if_neg (by rw [←Jc];omega)).symm,S.z,by rw [jw] at cC;exact cC,qj⟩
 clear S cC
 rintro ac w ⟨os,mm,aX,u,N,β,Ji,S,cC,ae2⟩
 obtain⟨m2,x0⟩:∃m2,m2=xs.set aV ({el xs aV with owned:=fp,outs:=os}:aZ):=⟨_,rfl⟩
 rw [←x0] at cC
 have Ed:aV<m2.length:=by rw [x0,List.length_set];exact mf
 have qe:el m2 aV=({el xs aV with owned:=fp,outs:=os}:aZ):=by rw [x0,fg mf]
 have RC:(el m2 aV).U=(el xs aV).U:=by rw [qe]
 have Rm:g.toNat<(el m2 aV).U.length:=by rw [RC];exact sn
 refine S.ex fun S=>?_
 refine S.go 1 .nil fun ac w β S=>?_
 refine dj ?_
 refine S.df (f:=9) 8 (by kernel_rfl) (by kernel_rfl) fun w S=>?_
 refine S.aI 0 [0] [] [(83,.v (aM cn.1.b (cn.1.off+aV*9)))] .nil fun ac S=>?_
 refine S.aI 1 [1] [] [(84,.v (aM cn.1.b (cn.1.off+aV*9)))] .nil fun ac S=>?_
 refine S.aI 2 [2] [] [(85,.v (aM cn.1.b (cn.1.off+aV*9+3)))] .nil fun ac S=>?_
 refine S.aI 3 [3] [] [(86,.v (ab (el m2 aV).U.length (mm aV).U.1))] (.cons (g7 cC.al (t:=68) (k:=aV) (j:=3) (v:=ab (el m2 aV).U.length (mm aV).U.1) Ed (by kernel_rfl) (by kernel_rfl)) .nil) fun ac S=>?_
 refine S.aI 4 [4] [] [(87,.v (R g))] .nil fun ac S=>?_
 refine S.aI 5 [5] [] [(88,.v (GT.val (el (el xs aV).U g.toNat) ((cn.2 aV).U.2 g.toNat)))] .nil fun ac S=>?_
 refine ao.one (i:=6) (by kernel_rfl) ?_
 refine id (S.cH 89 (tp w (el (el xs aV).U g.toNat) ((cn.2 aV).U.2 g.toNat) (S.rd (ES cC RC ae2 Ed sn))) fun ac w N ae y7 S up A8 zC=>?_)
 refine ao.next S up (by kernel_rfl) ?_
 have tx:=J.w zC cC.sub
 replace cC:=cC.up up
 refine S.aI 7 [7] [] [(89,.v (GT.val (cj (el (el xs aV).U g.toNat)) ae)),(90,.v (aM (mm aV).U.1.b ((mm aV).U.1.off+g.toNat*15)))] (.cons (cP (bn.U (d:=(el m2 aV)) (ag.el cC.al aV Ed)) g Tryz.underlying68 (hi:=Rm)) .nil) fun ac S=>?_
 refine ao.one (i:=8) (by kernel_rfl) ?_
 obtain⟨Nb,uz,BC,zl⟩:=xL cC (k:=aV) Ed
 have AW:=uz.sub
 refine id (S.n4 (α:=az) uz (t:=102) (k:=g.toNat) (off:=(mm aV).U.1.off+g.toNat*15) A8 (J.part tx BC) (hk:=Rm) fun w N Nf Uj S up A_ OW BE AX=>?_)
 refine ao.last (by kernel_rfl) ?_
 obtain⟨TX,Ba,NV⟩:=zl _ _ _ _ _ y7 up A_ BE tx (by show [ab _ _]=[ab _ _];rw [List.length_set]) (fun b h=>AX b (AW b h))
 replace S:=S.z (σ':=⟨[(89,.v (GT.val (cj (el (el xs aV).U g.toNat)) ae))],[GT.cells (el (el xs aV).U g.toNat) ((cn.2 aV).U.2 g.toNat)]⟩)
 refine ao.done (by kernel_rfl) ?_ _
 refine S.ex fun S=>?_
 refine S.aP 0 .nil [] fun ac w β S=>?_
 exact LV S (show(xs.set aV (kG (el xs aV) g (el (el xs aV).U g.toNat) want))=(m2.set aV ({el m2 aV with U:=(el m2 aV).U.set g.toNat (cj (el (el xs aV).U g.toNat))})) from agc x0 qe DE bM afl Ji) Ba
theorem D1 {p:Prop} (h:p:=by clear S;(unfold l8;(repeat' split)<;>first|rfl|(exfalso;omega)|(exfalso;simp_all;done)|(exfalso;simp_all;omega))):p:=h
theorem Yg (w0:World) (h:ad) (aK:cK) (ax:br w0 h aK) (m:Int) (page:Int):Calls Tryz.prog 143 [GT.val h aK,R m,R page].toArray w0 (dZ aa w0 (l8 h m page:List Int)):=by
 refine Calls.run aa Tryz.func143 ?_
 intro ac β S
 have gO:h.mem.length<=4194304:=ag.le (a4.mem (d:=h) ax)
 have gP:h.I.length<=4194304:=ag.le (a4.I (d:=h) ax)
 have gM:h.buf.length<=4194304:=ag.le (a4.buf (d:=h) ax)
 have gN:h.ar.length<=4194304:=ag.le (a4.ar (d:=h) ax)
 refine S.bs 16 (.cons (aY fun w hw=>gJ w m (h.I.length:Int) (by omega)) .nil) (!(aS m 0 ((h.I.length:Int)-1))) (fun ac w β h1 S=>?_) (fun ac w β h1 S=>?_)
 ·have ah:=cw h1
  have c3:=dC ah
  refine S.go 9 .nil fun ac w β S=>S.rT (α:=Int) (m:=4) (by':=8) (d:=20) (by omega) (show 4<=4194304 by omega) fun ac w N lN de S up a1 d7=>?_
  clear up d7
  refine S.aP 4 .nil [ab 4 lN.1] fun ac w β S=>?_
  exact cT S D1 (by rw [show 4=(List.replicate 4 (GT.dE:Int)).length from(by simp)];rfl) a1
 have e_:=cl h1
 have l_:=cM e_
 refine S.bs 6 (.cons (aY fun w hw=>gJ w page 8 (by omega)) .nil) (!(aS page 0 (8-1))) (fun ac w β dq S=>?_) (fun ac w β dq S=>?_)
 ·have gp:=cw dq
  have q9:=dC gp
  refine S.go 3 .nil fun ac w β S=>S.rT (α:=Int) (m:=4) (by':=8) (d:=20) (by omega) (show 4<=4194304 by omega) fun ac w N ic e3 S up aT d16=>?_
  clear up d16
  refine S.aP 4 .nil [ab 4 ic.1] fun ac w β S=>?_
  exact cT S D1 (by rw [show 4=(List.replicate 4 (GT.dE:Int)).length from(by simp)];rfl) aT
 have j7:=cl dq
 have q_:=cM j7
 refine S.a8 32 (.cons (cP (a4.I (d:=h) (S.arg ax)) m Tryz.underlying34) (.cons (dR (a4.I (d:=h) (S.arg ax)) 71 m.toNat) (.cons (aY fun w hw=>Cw w (el h.I m.toNat).outer (aK.I.2 m.toNat).outer (cQ (bn.outer (d:=(el h.I m.toNat)) (ag.el (a4.I (d:=h) (S.arg ax)) m.toNat (by omega))) hw) page) .nil))) ((dw (el h.I m.toNat).outer page).page != (-1)) (fun ac w β mR vz S=>?_) (fun ac w β mR vz S=>?_)
 ·refine S.go 7 .nil fun ac w β S=>S.ct (r:=gl h.mem (dw (el h.I m.toNat).outer page).page) (d:=37) (Gb w h.mem aK.mem (S.rd (a4.mem (d:=h) (S.arg ax))) (dw (el h.I m.toNat).outer page).page) fun ac w N jO hR S up bY d24=>?_
  clear up d24
  refine S.aP 4 .nil [ab (gl h.mem (dw (el h.I m.toNat).outer page).page).length jO.1] fun ac w β S=>?_
  exact cT S D1 rfl bY
 refine S.go 8 .nil fun ac w β S=>S.ct (r:=gl (el h.I m.toNat).out page) (d:=41) (Gb w (el h.I m.toNat).out (aK.I.2 m.toNat).out (S.rd (bn.out (d:=(el h.I m.toNat)) (ag.el (a4.I (d:=h) (S.arg ax)) m.toNat (by omega)))) page) fun ac w N dW eu S up cN d28=>?_
 clear up d28
 refine S.aP 4 .nil [ab (gl (el h.I m.toNat).out page).length dW.1] fun ac w β S=>?_
 exact cT S D1 rfl cN
theorem Sv {p:Prop} (h:p:=by clear S;(first|(unfold aG;rw [if_neg (KF (by assumption))];done)|(unfold aG;rw [if_pos (ry (by assumption)),uw (ry (by assumption)),cD,show i=8 by omega]))):p:=h
theorem Cv (w0:World) (h:ad) (aK:cK) (ax:br w0 h aK) (m:Int):Calls Tryz.prog 76 [GT.val h aK,R m].toArray w0 (dZ aa w0 (aG h m:a9)):=by
 refine Calls.run aa Tryz.func76 ?_
 intro ac β S
 have gO:h.mem.length<=4194304:=ag.le (a4.mem (d:=h) ax)
 have gP:h.I.length<=4194304:=ag.le (a4.I (d:=h) ax)
 have gM:h.buf.length<=4194304:=ag.le (a4.buf (d:=h) ax)
 have gN:h.ar.length<=4194304:=ag.le (a4.ar (d:=h) ax)
 refine S.go 10 .nil fun ac w β S=>S.fk (r:=(aC h m).1) (r':=(aC h m).2) (d:=12) (Cs w h aK (S.rd (S.arg ax)) m) fun ac w N ae eP cR fQ S up cG a1 d7 d8 d9=>?_
 clear up d7
 clear d8
 have i25:aq (aC h m).1.av:=bn.av (d:=(aC h m).1) cG.al
 obtain⟨jS,fP,mZ,kT,hR,qI,ft,cJ,ef,en,bY,eo,_,_,_,_,_,_,_,_,_,_,_,_,_,_,_,_,_,_,d43,_,_⟩:=UW cG
 refine S.bs 15 .nil (!(aC h m).2) (fun ac w β nn S=>?_) (fun ac w β nn S=>?_)
 ·have pc:=cw nn
  refine S.aP 8 (.cons (dY (s:=Instr.build 90 [].toArray) (v:= .agg [ab ([]:List (List Int)).length (GT.bL (α:=List (List Int))).1,ab ([]:List az).length (GT.bL (α:=List az)).1,ab ([]:List Int).length (GT.bL (α:=List Int)).1,R 0].toArray) (fun w=>by kernel_rfl)) .nil) [GT.val (⟨([]:List (List Int)),([]:List az),([]:List Int),0⟩:a9) (⟨(GT.bL (α:=List (List Int))),(GT.bL (α:=List az)),(GT.bL (α:=List Int))⟩:ec)] fun ac w β S=>?_
  have px:=S.hp (α:=List Int)
  have gh:=S.hp (α:=az)
  have il:=S.hp (α:=Int)
  have hr:=kN (x:=(⟨([]:List (List Int)),([]:List az),([]:List Int),0⟩:a9)) (p:=(⟨(GT.bL (α:=List (List Int))),(GT.bL (α:=List az)),(GT.bL (α:=List Int))⟩:ec)) px gh il (fun b _ h=>False.elim h) (fun b _ h=>False.elim h) (fun b _ h=>False.elim h) (show aq 0 from⟨by decide,by decide⟩)
  exact cT S Sv rfl hr
 have ri:=cl nn
 have aoB:=sH ri
 refine S.go 23 (.cons (dY (s:=Instr.build 90 [(1,ab (aC h m).1.U.length ae.U.1),(2,ab (aC h m).1.outs.length ae.outs.1),(3,R (aC h m).1.av)].toArray) (v:= .agg [ab ([]:List (List Int)).length (GT.bL (α:=List (List Int))).1,ab (aC h m).1.U.length ae.U.1,ab (aC h m).1.outs.length ae.outs.1,R (aC h m).1.av].toArray) (fun w=>by kernel_rfl)) .nil) fun ac w β S=>?_
 have yz:=S.hp (α:=List Int)
 refine ek (fun bG ac w=>∃(i:Nat) (acc:List (List Int)) (pG:_) (oY:_) (u:_) (N:_) (β:_),bG=8-i/\(i<=8)/\(acc=(List.range i).map (fun(j:Nat)=>l8 h m (j:Int)))/\aj Tryz.prog Tryz.f76.ntmps w0 aa u N β ⟨[(1,.v (R m)),(2,.p 0 0),(4,.p 1 0),(7,.p 3 0),(8,.v (R (i:Int)))],[GT.cells h aK,c2 a9,[ab (aC h m).1.outer.length ae.outer.1,ab (aC h m).1.out.length ae.out.1,ab (aC h m).1.bj.length ae.bj.1,ab (aC h m).1.U.length ae.U.1,ab (aC h m).1.outs.length ae.outs.1,R (aC h m).1.av,R (aC h m).1.bQ,ab (aC h m).1.tables.length ae.tables.1,R (aC h m).1.owned],[ab acc.length pG.1,ab (aC h m).1.U.length ae.U.1,ab (aC h m).1.outs.length ae.outs.1,R (aC h m).1.av]]⟩ ac w/\ai w0 aa u N oY acc pG/\ai w0 aa u N jS (aC h m).1.outer ae.outer/\ai w0 aa u N fP (aC h m).1.out ae.out/\ai w0 aa u N mZ (aC h m).1.bj ae.bj/\ai w0 aa u N kT (aC h m).1.U ae.U/\ai w0 aa u N hR (aC h m).1.outs ae.outs/\ai w0 aa u N qI (aC h m).1.tables ae.tables/\J oY jS/\J oY fP/\J oY mZ/\J oY kT/\J oY hR/\J oY qI) _ ⟨0,([]:List (List Int)),(GT.bL (α:=List (List Int))),aa,_,_,_,rfl,cL,(by rfl),S.z,yz,ft,cJ,ef,en,bY,eo,(J.symm (fun b _ h=>False.elim h)),(J.symm (fun b _ h=>False.elim h)),(J.symm (fun b _ h=>False.elim h)),(J.symm (fun b _ h=>False.elim h)),(J.symm (fun b _ h=>False.elim h)),(J.symm (fun b _ h=>False.elim h))⟩ ?_
 clear S ft cJ ef en bY eo yz a1
 rintro f64 bG aeu ac w ⟨i,acc,pG,oY,u,N,β,rfl,hi,cD,S,kd,ft,cJ,ef,en,bY,eo,d58,d59,d60,d61,d62,d63⟩
 refine S.rs fun S=>?_
 have lH:acc.length=i:=by rw [cD];simp
 refine S.a8 7 .nil (decide ((i:Int)<8)) (fun ac w β HJ PL S=>?_) (fun ac w β HJ PL S=>?_)
 ·refine S.go 5 .nil fun ac w β S=>?_
  refine dj ?_
  refine S.df (f:=10) 7 (by kernel_rfl) (by kernel_rfl) fun w S=>?_
  refine S.aI 0 [1,0] [] [(29,.p 3 0)] .nil fun ac S=>?_
  refine S.aI 1 [1] [] [(30,.v (ab acc.length pG.1))] .nil fun ac S=>?_
  refine S.aI 2 [5,2] [] [(31,.v (GT.val h aK))] .nil fun ac S=>?_
  refine S.aI 3 [5,3] [] [(32,.v (R m))] .nil fun ac S=>?_
  refine S.aI 4 [5,4] [] [(33,.v (R (i:Int)))] .nil fun ac S=>?_
  refine ao.one (i:=5) (by kernel_rfl) ?_
  refine id (S.cH 34 (Yg w h aK (S.rd (S.arg ax)) m (i:Int)) fun ac w N yN y9 S up uD d71=>?_)
  refine ao.next S up (by kernel_rfl) ?_
  have d72:=J.w d71 kd.sub
  have d73:=J.w d71 ft.sub
  have d74:=J.w d71 cJ.sub
  have d75:=J.w d71 ef.sub
  have d76:=J.w d71 en.sub
  have d77:=J.w d71 bY.sub
  have d78:=J.w d71 eo.sub
  replace kd:=kd.up up
  replace ft:=ft.up up
  replace cJ:=cJ.up up
  replace ef:=ef.up up
  replace en:=en.up up
  replace bY:=bY.up up
  replace eo:=eo.up up
  clear up d71
  refine ao.one (i:=6) (by kernel_rfl) ?_
  refine id (S.pT (α:=List Int) (x:=(l8 h m (i:Int))) (p:=yN) uD.own uD.sub uD.cU (d:=35) (by kernel_rfl) fun ac w N Un B8 S up qp d82=>?_)
  refine ao.next S up (by kernel_rfl) ?_
  have d83:=d82 _ d72 kd.sub
  have d84:=d82 _ d73 ft.sub
  have d85:=d82 _ d74 cJ.sub
  have d86:=d82 _ d75 ef.sub
  have d87:=d82 _ d76 en.sub
  have d88:=d82 _ d77 bY.sub
  have d89:=d82 _ d78 eo.sub
  replace kd:=kd.up up
  replace ft:=ft.up up
  replace cJ:=cJ.up up
  replace ef:=ef.up up
  replace en:=en.up up
  replace bY:=bY.up up
  replace eo:=eo.up up
  clear up d82
  refine ao.one (i:=7) (by kernel_rfl) ?_
  refine id (S.vf (α:=List Int) kd qp d83 (by':=24) (d:=36) (lx:=acc.length) (ly:=1) rfl rfl (by kernel_rfl) (show _<=4194304 by simp only [List.length_append,List.length_cons,List.length_nil];omega) fun ac w N Up FI S up Bc d93=>?_)
  refine ao.last (by kernel_rfl) ?_
  have d94:=d93 _ (J.symm d58) d84 ft.sub
  have d95:=d93 _ (J.symm d59) d85 cJ.sub
  have d96:=d93 _ (J.symm d60) d86 ef.sub
  have d97:=d93 _ (J.symm d61) d87 en.sub
  have d98:=d93 _ (J.symm d62) d88 bY.sub
  have d99:=d93 _ (J.symm d63) d89 eo.sub
  replace ft:=ft.bp (J.symm d58) up
  replace cJ:=cJ.bp (J.symm d59) up
  replace ef:=ef.bp (J.symm d60) up
  replace en:=en.bp (J.symm d61) up
  replace bY:=bY.bp (J.symm d62) up
  replace eo:=eo.bp (J.symm d63) up
  clear up d93
  refine S.b8 8 [] [(37,.p 3 0)] 4 [] .nil fun ac w β S=>?_
  refine S.b8 9 [] [] 4 [(3,[ab (acc++[(l8 h m (i:Int))]).length Up.1,ab (aC h m).1.U.length ae.U.1,ab (aC h m).1.outs.length ae.outs.1,R (aC h m).1.av])] .nil fun ac w β S=>?_
  refine ao.done (by kernel_rfl) ?_ _
  refine S.ex fun S=>?_
  refine S.ge 7 (.cons (cO (i:Int) 1) .nil) f64 fun ac w β S=>aeu.of (8-(i+1)) _ _ (by omega) ⟨i+1,(acc++[(l8 h m (i:Int))]),Up,FI,_,_,_,rfl,?_,?_,S.z,Bc,ft,cJ,ef,en,bY,eo,(J.symm d94),(J.symm d95),(J.symm d96),(J.symm d97),(J.symm d98),(J.symm d99)⟩
  ·exact dn
  ·clear S;(rw [LW,←cD])
 refine S.aP 13 .nil [GT.val (⟨acc,(aC h m).1.U,(aC h m).1.outs,(aC h m).1.av⟩:a9) (⟨pG,ae.U,ae.outs⟩:ec)] fun ac w β S=>?_
 have A1:=kN (x:=(⟨acc,(aC h m).1.U,(aC h m).1.outs,(aC h m).1.av⟩:a9)) (p:=(⟨pG,ae.U,ae.outs⟩:ec)) kd en bY d61 d62 d43 i25
 exact cT S Sv rfl A1
theorem DW {p:Prop} (h:p:=by clear S;(first|(unfold aR;rw [if_pos (by omega)];done)|(unfold aR;rw [if_pos (by omega)];first|rfl|(simp;done))|(unfold aR;rw [if_neg (by omega)];done)|(unfold aR;rw [if_neg (by omega)];first|rfl|(simp;done)))):p:=h
theorem Cq (w0:World) (b:a9) (aQ:ec) (hb:br w0 b aQ) (g:Int):Calls Tryz.prog 133 [GT.val b aQ,R g].toArray w0 (fG aa w0 ((aR b g).1:az) ((aR b g).2:Bool)):=by
 refine Calls.run aa Tryz.func133 ?_
 intro ac β S
 have iD:b.mem.length<=4194304:=ag.le (b_.mem (d:=b) hb)
 have iW:b.U.length<=4194304:=ag.le (b_.U (d:=b) hb)
 have iX:b.outs.length<=4194304:=ag.le (b_.outs (d:=b) hb)
 refine S.bs 18 (.cons (aY fun w hw=>gJ w g (b.U.length:Int) (by omega)) .nil) (!(aS g 0 ((b.U.length:Int)-1))) (fun ac w β h1 S=>?_) (fun ac w β h1 S=>?_)
 ·have ah:=cw h1
  have c3:=dC ah
  refine S.aP 9 (.cons (dY (s:=Instr.build 102 [].toArray) (v:= .agg [ab ([]:List cE).length (GT.bL (α:=List cE)).1,R 0,R 0,ab ([]:List aA).length (GT.bL (α:=List aA)).1,ab ([]:List aA).length (GT.bL (α:=List aA)).1,R 0,R 0,B false,R 0,R 0,R 0,B false,R 0,B false,ab ([]:List Int).length (GT.bL (α:=List Int)).1].toArray) (fun w=>by kernel_rfl)) .nil) [GT.val (⟨([]:List cE),0,0,([]:List aA),([]:List aA),(⟨0,0,false⟩:eM),0,(⟨0,0,false,0⟩:dI),false,([]:List Int)⟩:az) (⟨(GT.bL (α:=List cE)),(GT.bL (α:=List aA)),(GT.bL (α:=List aA)),(GT.bL (α:=List Int))⟩:dB),B false] fun ac w β S=>?_
  have eY:=S.hp (α:=cE)
  have cG:=S.hp (α:=aA)
  have a1:=S.hp (α:=aA)
  have ak:=S.hp (α:=Int)
  have bS:=ke (x:=(⟨([]:List cE),0,0,([]:List aA),([]:List aA),(⟨0,0,false⟩:eM),0,(⟨0,0,false,0⟩:dI),false,([]:List Int)⟩:az)) (p:=(⟨(GT.bL (α:=List cE)),(GT.bL (α:=List aA)),(GT.bL (α:=List aA)),(GT.bL (α:=List Int))⟩:dB)) eY cG a1 ak (fun b _ h=>False.elim h) (fun b _ h=>False.elim h) (fun b _ h=>False.elim h) (fun b _ h=>False.elim h) (fun b _ h=>False.elim h) (fun b _ h=>False.elim h) (show aq 0 from⟨by decide,by decide⟩) (show aq 0 from⟨by decide,by decide⟩) (show hC (⟨0,0,false⟩:eM) from⟨(show aq 0 from⟨by decide,by decide⟩),(show aq 0 from⟨by decide,by decide⟩)⟩) (show aq 0 from⟨by decide,by decide⟩) (show iu (⟨0,0,false,0⟩:dI) from⟨(show aq 0 from⟨by decide,by decide⟩),(show aq 0 from⟨by decide,by decide⟩),(show aq 0 from⟨by decide,by decide⟩)⟩)
  exact cB (p':=()) S DW DW rfl rfl bS trivial
 have gd:=cl h1
 have p9:=cM gd
 refine S.go 10 (.cons (cP (b_.U (d:=b) (S.arg hb)) g Tryz.underlying68) (.cons (dR (b_.U (d:=b) (S.arg hb)) 102 g.toNat) .nil)) fun ac w β S=>S.ct (r:=(el b.U g.toNat)) (d:=18) (tr w (el b.U g.toNat) (aQ.U.2 g.toNat) (S.rd (ag.el (b_.U (d:=b) (S.arg hb)) g.toNat (by omega)))) fun ac w N oO mY S up fa d14=>?_
 clear up d14
 refine S.aP 5 .nil [GT.val (el b.U g.toNat) oO,B true] fun ac w β S=>?_
 exact cB (p':=()) S DW DW rfl rfl fa trivial
theorem D_ {p:Prop} (h:p:=by clear S;(symm;rw [←Bool.not_eq_true];intro hc;simp only [hK,Bool.and_eq_true,decide_eq_true_eq,beq_iff_eq] at hc;first|omega|(simp_all;done)|(simp_all;omega)|(have hx:=w7 (k:=k) hc.1.1.1.1 (by omega);simp_all;done))):p:=h
theorem zp (w0:World) (b:a9) (aQ:ec) (hb:br w0 b aQ):Calls Tryz.prog 134 [GT.val b aQ].toArray w0 (fun e w'=>e= .returned (B (hK b))/\bX aa w0 w'):=by
 refine Calls.run aa Tryz.func134 ?_
 intro ac β S
 have iD:b.mem.length<=4194304:=ag.le (b_.mem (d:=b) hb)
 have iW:b.U.length<=4194304:=ag.le (b_.U (d:=b) hb)
 have iX:b.outs.length<=4194304:=ag.le (b_.outs (d:=b) hb)
 refine S.go 16 .nil fun ac w β S=>?_
 refine ek (fun bG ac w=>∃(k:Nat) (u:_) (N:_) (β:_),bG=b.U.length-k/\(k<=b.U.length)/\((b.U.take k).all na=true)/\aj Tryz.prog Tryz.f134.ntmps w0 aa u N β ⟨[(1,.p 0 0),(6,.v (ab b.U.length aQ.U.1)),(7,.v (R (b.U.length:Int))),(8,.v (R (k:Int)))],[GT.cells b aQ]⟩ ac w) _ ⟨0,_,_,_,rfl,cL,(by simp),S.z⟩ ?_
 clear S
 rintro f1 bG mc ac w ⟨k,u,N,β,rfl,hk,he,S⟩
 refine S.rs fun S=>?_
 refine S.a8 6 .nil (decide ((k:Int)<(b.U.length:Int))) (fun ac w β aE ej S=>?_) (fun ac w β aE ej S=>?_)
 ·refine S.bs 20 (.cons (cA (b_.U (d:=b) (S.arg hb)) k Tryz.underlying68) (.cons (dR (b_.U (d:=b) (S.arg hb)) 102 k) (.cons (aY fun w hw=>N7 w (el b.U k) (aQ.U.2 k) (cQ (ag.el (b_.U (d:=b) (S.arg hb)) k (by omega)) hw)) .nil))) (!(na (el b.U k))) (fun ac w β cf S=>?_) (fun ac w β cf S=>?_)
  ·have dU:=cw cf
   exact S.bb 7 .nil [B false] (b4 D_)
  have eH:=cl cf
  refine S.ge 8 (.cons (cO (k:Int) 1) .nil) f1 fun ac w β S=>mc.of (b.U.length-(k+1)) _ _ (by omega) ⟨k+1,_,_,_,rfl,?_,?_,S.z⟩
  ·exact dn
  ·clear S;exact w8 (by omega) he (by first|assumption|simp_all)
 refine S.bs 12 (.cons (aY fun w hw=>Oa w b.mem aQ.mem (cQ (b_.mem (d:=b) (S.arg hb)) hw) 8) .nil) (iy b.mem 8) (fun ac w β e_ S=>?_) (fun ac w β e_ S=>?_)
 ·refine S.bs 6 (.cons (aY fun w hw=>fU w (b.U.length:Int) 1 2) .nil) (aS (b.U.length:Int) 1 2) (fun ac w β gd S=>?_) (fun ac w β gd S=>?_)
  ·have p9:=cM gd
   refine S.a8 6 .nil (decide ((b.outs.length:Int)<=40)) (fun ac w β gp q9 S=>?_) (fun ac w β gp q9 S=>?_)
   ·exact S.bb 8 (.cons (aY fun w hw=>zr w b.av) .nil) [B (aS b.av 0 255)] (b4 (by clear S;(first|rfl|(symm;rw [←Bool.not_eq_true];intro hc;simp only [hK,Bool.and_eq_true,decide_eq_true_eq,beq_iff_eq] at hc;first|omega|(simp_all;done)|(simp_all;omega)|(have hx:=w7 (k:=k) hc.1.1.1.1 (by omega);simp_all;done))|(symm;simp only [hK,Bool.and_eq_true,decide_eq_true_eq,beq_iff_eq];(repeat' apply And.intro);all_goals first|assumption|omega|(simp_all;done)|(simp_all;omega)|(exact iK (by omega) he))|(rw [Bool.eq_iff_iff];simp only [hK,Bool.and_eq_true,decide_eq_true_eq,beq_iff_eq];refine⟨fun bo=>?_,fun hc=>?_⟩<;>((repeat' apply And.intro);all_goals first|assumption|omega|(simp_all;done)|(simp_all;omega)|(exact iK (by omega) he))))))
   exact S.bb 8 .nil [B false] (b4 D_)
  have l9:=dC gd
  exact S.bb 14 .nil [B false] (b4 D_)
 exact S.bb 20 .nil [B false] (b4 D_)
theorem pU (w0:World) (b:a9) (aQ:ec) (hb:br w0 b aQ):Calls Tryz.prog 135 [GT.val b aQ].toArray w0 (dZ aa w0 (b:a9)):=by
 refine Calls.run aa Tryz.func135 ?_
 intro ac β S
 have iD:b.mem.length<=4194304:=ag.le (b_.mem (d:=b) hb)
 have iW:b.U.length<=4194304:=ag.le (b_.U (d:=b) hb)
 have iX:b.outs.length<=4194304:=ag.le (b_.outs (d:=b) hb)
 refine S.go 7 .nil fun ac w β S=>?_
 refine dj ?_
 refine S.df (f:=13) 12 (by kernel_rfl) (by kernel_rfl) fun w S=>?_
 refine S.hm 5 [0,1,3,4,6,7,9,10] [] [(4,.v (ab b.mem.length aQ.mem.1)),(7,.v (ab b.U.length aQ.U.1)),(10,.v (ab b.outs.length aQ.outs.1)),(13,.v (R b.av))] .nil fun ac S=>?_
 refine ao.one (i:=2) (by kernel_rfl) ?_
 refine id (S.cH 5 (o3 w b.mem aQ.mem (S.rd (b_.mem (d:=b) (S.arg hb)))) fun ac w N ae aX S up au d4=>?_)
 refine ao.next S up (by kernel_rfl) ?_
 clear up d4
 refine ao.one (i:=5) (by kernel_rfl) ?_
 refine id (S.cH 8 (zu w b.U aQ.U (S.rd (b_.U (d:=b) (S.arg hb)))) fun ac w N bZ b7 S up ak d8=>?_)
 refine ao.next S up (by kernel_rfl) ?_
 have d9:=J.w d8 au.sub
 replace au:=au.up up
 clear up d8
 refine ao.one (i:=8) (by kernel_rfl) ?_
 refine id (S.cH 11 (xe w b.outs aQ.outs (S.rd (b_.outs (d:=b) (S.arg hb)))) fun ac w N dH dy S up aW d13=>?_)
 refine ao.next S up (by kernel_rfl) ?_
 have d14:=J.w d13 au.sub
 have d15:=J.w d13 ak.sub
 replace au:=au.up up
 replace ak:=ak.up up
 clear up d13
 refine S.aI 11 [11] [] [(14,.v (GT.val (⟨b.mem,b.U,b.outs,b.av⟩:a9) (⟨ae,bZ,dH⟩:ec)))] (.cons (dY (s:=Instr.build 90 [(0,ab b.mem.length ae.1),(1,ab b.U.length bZ.1),(2,ab b.outs.length dH.1),(3,R b.av)].toArray) (v:= .agg [ab b.mem.length ae.1,ab b.U.length bZ.1,ab b.outs.length dH.1,R b.av].toArray) (fun w=>by kernel_rfl)) .nil) fun ac S=>?_
 refine S.b8 12 [] [] 2 [(1,[ab b.mem.length ae.1,ab b.U.length bZ.1,ab b.outs.length dH.1,R b.av])] .nil fun ac w β S=>?_
 refine ao.done (by kernel_rfl) ?_ _
 refine S.ex fun S=>?_
 refine S.aP 2 .nil [GT.val (⟨b.mem,b.U,b.outs,b.av⟩:a9) (⟨ae,bZ,dH⟩:ec)] fun ac w β S=>?_
 have dd:=kN (x:=(⟨b.mem,b.U,b.outs,b.av⟩:a9)) (p:=(⟨ae,bZ,dH⟩:ec)) au ak aW d9 d14 d15 (b_.av (d:=b) (S.arg hb))
 exact cT S (show b=(⟨b.mem,b.U,b.outs,b.av⟩:a9) by clear S;(first|rfl|simp)) rfl dd
theorem ys {p:Prop} (h:p:=by clear S;(first|(unfold fL;rw [if_pos (by assumption)];done)|(unfold fL;rw [if_neg (by assumption)];done)|(unfold fL;rw [if_neg (by assumption)];exact U4 (by assumption))|(unfold fL;rw [if_neg (by assumption)];exact(U4 (by assumption)).symm))):p:=h
theorem Of (w0:World) (p:Int) (a2:aq p):Calls Tryz.prog 163 [R p].toArray w0 (fun e w'=>e= .returned (.tuple #[R (fL p).1,R (fL p).2.1,B (fL p).2.2])/\bX aa w0 w'):=by
 refine Calls.run aa Tryz.func163 ?_
 intro ac β S
 have aeP:=a2.b9;have aex:=a2.hi
 have bd:=Fc p
 refine S.a8 21 (.cons (aY fun w hw=>Oh w p) .nil) (decide ((j4 p)<0)) (fun ac w β ah c3 S=>?_) (fun ac w β ah c3 S=>?_)
 ·exact S.bb 10 .nil [R p,R (-1),B false] (Uv (l5 (show p=(fL p).1 from ys)) (l5 (show(-1)=(fL p).2.1 from ys)) (m8 (show false=(fL p).2.2 from ys)))
 exact S.bb 16 (.cons (Nt (yk:= .i64) (x:=1) (y:=(j4 p)) (by omega)) (.cons (WB (x:=p) (y:=(oS 1 (j4 p)))) .nil)) [R (v_ p (oS 1 (j4 p))),R (j4 p),B true] (Uv (l5 (show(v_ p (oS 1 (j4 p)))=(fL p).1 from ys)) (l5 (show(j4 p)=(fL p).2.1 from ys)) (m8 (show true=(fL p).2.2 from ys)))
theorem Sq {p:Prop} (h:p:=by clear S;(unfold p1;first|(rw [if_pos (by assumption)];done)|(rw [if_neg (by simp [*])];done))):p:=h
theorem X_ (w0:World) (g:az) (cv:dB) (aJ:br w0 g cv):Calls Tryz.prog 137 [GT.val g cv].toArray w0 (dZ aa w0 (p1 g:az)):=by
 refine Calls.run aa Tryz.func137 ?_
 intro ac β S
 have nT:g.prog.length<=4194304:=ag.le (a5.prog (d:=g) aJ)
 have nV:g.written.length<=4194304:=ag.le (a5.written (d:=g) aJ)
 have nS:g.live.length<=4194304:=ag.le (a5.live (d:=g) aJ)
 have nU:g.seen.length<=4194304:=ag.le (a5.seen (d:=g) aJ)
 refine S.bs 14 (.cons (aY fun w hw=>Og w g cv (cQ (S.arg aJ) hw)) .nil) (!(tJ g)) (fun ac w β h1 S=>?_) (fun ac w β h1 S=>?_)
 ·have ah:=cw h1
  refine S.go 4 .nil fun ac w β S=>S.ct (r:=g) (d:=10) (tr w g cv (S.rd (S.arg aJ))) fun ac w N pF fQ S up cG d6=>?_
  clear up d6
  refine S.aP 4 .nil [GT.val g pF] fun ac w β S=>?_
  exact cT S Sq rfl cG
 have eH:=cl h1
 have anw:=alx g.av
 refine S.go 29 (.cons (aY fun w hw=>Of w g.av (a5.av (d:=g) (S.arg aJ))) (.cons (cO 100 ((fL g.av).2.1)) .nil)) fun ac w β S=>S.ct (r:=mO (⟨g.prog,g.acc,g.aN,g.written,g.live,g.bH,(fL g.av).1,g.exit,g.halted,g.seen⟩:az) (100+(fL g.av).2.1)) (d:=23) (Oc w (⟨g.prog,g.acc,g.aN,g.written,g.live,g.bH,(fL g.av).1,g.exit,g.halted,g.seen⟩:az) (⟨cv.prog,cv.written,cv.live,cv.seen⟩:dB) (S.rd (show GT.rd bz _ _ (⟨g.prog,g.acc,g.aN,g.written,g.live,g.bH,(fL g.av).1,g.exit,g.halted,g.seen⟩:az) (⟨cv.prog,cv.written,cv.live,cv.seen⟩:dB) from⟨(a5.prog (p:=cv) (d:=g) (S.arg aJ)),(a5.acc (d:=g) (S.arg aJ)),(a5.aN (d:=g) (S.arg aJ)),(a5.written (p:=cv) (d:=g) (S.arg aJ)),(a5.live (p:=cv) (d:=g) (S.arg aJ)),(a5.bH (d:=g) (S.arg aJ)),(U3 (a5.av (d:=g) (S.arg aJ))),(a5.exit (d:=g) (S.arg aJ)),(a5.seen (p:=cv) (d:=g) (S.arg aJ))⟩)) (100+(fL g.av).2.1) ⟨by omega,by omega⟩) fun ac w N hg jS S up ft d12=>?_
 clear up d12
 refine S.aP 4 .nil [GT.val (mO (⟨g.prog,g.acc,g.aN,g.written,g.live,g.bH,(fL g.av).1,g.exit,g.halted,g.seen⟩:az) (100+(fL g.av).2.1)) hg] fun ac w β S=>?_
 exact cT S Sq rfl ft
theorem Sy {p:Prop} (h:p:=by clear S;(unfold iT;first|(rw [if_pos (by omega)];done)|(rw [if_neg (by omega)];done))):p:=h
theorem qW (w0:World) (b:a9) (aQ:ec) (hb:br w0 b aQ) (g:Int) (x:az) (cg:dB) (hx:br w0 x cg):Calls Tryz.prog 136 [GT.val b aQ,R g,GT.val x cg].toArray w0 (dZ aa w0 (iT b g x:a9)):=by
 refine Calls.run aa Tryz.func136 ?_
 intro ac β S
 have iD:b.mem.length<=4194304:=ag.le (b_.mem (d:=b) hb)
 have iW:b.U.length<=4194304:=ag.le (b_.U (d:=b) hb)
 have iX:b.outs.length<=4194304:=ag.le (b_.outs (d:=b) hb)
 have aeM:x.prog.length<=4194304:=ag.le (a5.prog (d:=x) hx)
 have aeO:x.written.length<=4194304:=ag.le (a5.written (d:=x) hx)
 have aeL:x.live.length<=4194304:=ag.le (a5.live (d:=x) hx)
 have aeN:x.seen.length<=4194304:=ag.le (a5.seen (d:=x) hx)
 refine S.go 10 .nil fun ac w β S=>S.ct (r:=b) (d:=9) (pU w b aQ (S.rd (S.arg hb))) fun ac w N ae aX S up au d4=>?_
 clear up d4
 have i14:aq b.av:=b_.av (d:=b) au.al
 obtain⟨de,eE,dy,a1,a6,aW,_,_,_,d15,d16,d17⟩:=wH au
 refine S.bs 14 (.cons (aY fun w hw=>gJ w g (b.U.length:Int) (by omega)) .nil) (aS g 0 ((b.U.length:Int)-1)) (fun ac w β h2 S=>?_) (fun ac w β h2 S=>?_)
 ·have tP:=cM h2
  refine S.go 1 .nil fun ac w β S=>?_
  refine dj ?_
  refine S.df (f:=7) 6 (by kernel_rfl) (by kernel_rfl) fun w S=>?_
  refine S.hm 3 [0,1,2,3] [] [(16,.v (ab b.U.length ae.U.1)),(17,.v (R g)),(18,.v (GT.val x cg))] .nil fun ac S=>?_
  refine ao.one (i:=4) (by kernel_rfl) ?_
  refine id (S.cH 19 (tr w x cg (S.rd (S.arg hx))) fun ac w N sX u4 S up ll d23=>?_)
  refine ao.next S up (by kernel_rfl) ?_
  have d24:=J.w d23 a1.sub
  have d25:=J.w d23 a6.sub
  have d26:=J.w d23 aW.sub
  replace a1:=a1.up up
  replace a6:=a6.up up
  replace aW:=aW.up up
  clear up d23
  refine S.aI 5 [5] [] [(20,.v (aM ae.U.1.b (ae.U.1.off+g.toNat*15)))] (.cons (cP a6.al g Tryz.underlying68) .nil) fun ac S=>?_
  refine ao.one (i:=6) (by kernel_rfl) ?_
  refine id (S.n4 (α:=az) a6 (t:=102) (k:=g.toNat) (off:=ae.U.1.off+g.toNat*15) ll d25 fun w N gW jE S up cN d30 L3 wc=>?_)
  refine ao.last (by kernel_rfl) ?_
  have d33:=d30 _ d15 d24 a1.sub
  have d34:=d30 _ (J.symm d17) d26 aW.sub
  replace a1:=a1.bp d15 up
  replace aW:=aW.bp (J.symm d17) up
  clear up d30 a6 wc
  have SV:(b.U.set g.toNat x).length=b.U.length:=List.length_set
  replace S:=S.z (σ':=⟨[(6,.p 2 0),(7,.p 3 0),(19,.v (GT.val x sX)),(20,.v (aM ae.U.1.b (ae.U.1.off+g.toNat*15)))],[GT.cells b aQ,GT.cells x cg,c2 a9,[ab b.mem.length ae.mem.1,ab (b.U.set g.toNat x).length ae.U.1,ab b.outs.length ae.outs.1,R b.av]]⟩) (by rw [show(b.U.set g.toNat x).length=b.U.length by omega]<;>kernel_rfl)
  refine ao.done (by kernel_rfl) ?_ _
  refine S.ex fun S=>?_
  refine S.aP 8 .nil [GT.val (⟨b.mem,(b.U.set g.toNat x),b.outs,b.av⟩:a9) (⟨ae.mem,(ae.U.1,jE),ae.outs⟩:ec)] fun ac w β S=>?_
  have hO:=kN (x:=(⟨b.mem,(b.U.set g.toNat x),b.outs,b.av⟩:a9)) (p:=(⟨ae.mem,(ae.U.1,jE),ae.outs⟩:ec)) a1 cN aW d33 d16 (J.symm d34) i14
  exact cT S Sy rfl hO
 have zX:=dC h2
 refine S.aP 10 .nil [GT.val b ae] fun ac w β S=>?_
 have gT:=kN (x:=b) (p:=ae) a1 a6 aW d15 d16 d17 i14
 exact cT S Sy rfl gT
theorem uj {p:Prop} (h:p:=by clear S;(unfold p6;first|(rw [if_neg (by assumption)];done)|(rw [if_pos (by assumption)];unfold G7;(repeat' split)<;>first|rfl|(exfalso;omega)|(exfalso;simp_all;done)|(exfalso;simp_all;omega)|(simp_all;done)|(simp_all [cj];done)))):p:=h
theorem Yi (w0:World) (g:az) (cv:dB) (aJ:br w0 g cv):Calls Tryz.prog 138 [GT.val g cv].toArray w0 (dZ aa w0 (p6 g:az)):=by
 refine Calls.run aa Tryz.func138 ?_
 intro ac β S
 have nT:g.prog.length<=4194304:=ag.le (a5.prog (d:=g) aJ)
 have nV:g.written.length<=4194304:=ag.le (a5.written (d:=g) aJ)
 have nS:g.live.length<=4194304:=ag.le (a5.live (d:=g) aJ)
 have nU:g.seen.length<=4194304:=ag.le (a5.seen (d:=g) aJ)
 have bd:=BV g
 refine S.a8 14 (.cons (aY fun w hw=>zs w g cv (cQ (S.arg aJ) hw)) .nil) ((b6 g) != 2) (fun ac w β ah c3 S=>?_) (fun ac w β ah c3 S=>?_)
 ·refine S.go 4 .nil fun ac w β S=>S.ct (r:=g) (d:=9) (tr w g cv (S.rd (S.arg aJ))) fun ac w N lN de S up a1 d7=>?_
  clear up d7
  have i11:aq g.acc:=a5.acc (d:=g) a1.al
  have i12:aq g.aN:=a5.aN (d:=g) a1.al
  have i19:hC g.bH:=a5.bH (d:=g) a1.al
  have i20:aq g.av:=a5.av (d:=g) a1.al
  have i21:iu g.exit:=a5.exit (d:=g) a1.al
  obtain⟨eE,fP,mZ,hR,a6,cJ,ef,bY,_,_,_,_,d25,d26,d27,d28,d29,d30⟩:=qB a1
  refine S.aP 4 .nil [GT.val g lN] fun ac w β S=>?_
  have fN:=ke (x:=g) (p:=lN) a6 cJ ef bY d25 d26 d27 d28 d29 d30 i11 i12 i19 i20 i21
  exact cT S uj rfl fN
 refine S.go 17 (.cons (aY fun w hw=>vg w g.prog cv.prog (cQ (a5.prog (d:=g) (S.arg aJ)) hw) g.aN) .nil) fun ac w β S=>S.ct (r:=cj g) (d:=16) (tp w g cv (S.rd (S.arg aJ))) fun ac w N hA u5 S up k4 d35=>?_
 clear up d35
 have i39:aq (cj g).acc:=a5.acc (d:=(cj g)) k4.al
 have i40:aq (cj g).aN:=a5.aN (d:=(cj g)) k4.al
 have i47:hC (cj g).bH:=a5.bH (d:=(cj g)) k4.al
 have i48:aq (cj g).av:=a5.av (d:=(cj g)) k4.al
 have i49:iu (cj g).exit:=a5.exit (d:=(cj g)) k4.al
 obtain⟨k8,oW,lW,oX,eO,kc,fu,hr,_,_,_,_,d53,d54,d55,d56,d57,d58⟩:=qB k4
 refine S.bs 12 (.cons (aY fun w hw=>fU w g.acc 0 99) .nil) (!(aS g.acc 0 99)) (fun ac w β z8 S=>?_) (fun ac w β z8 S=>?_)
 ·have z9:=cw z8
  have PJ:=dC z9
  refine S.aP 15 .nil [GT.val (cj g) hA] fun ac w β S=>?_
  have uC:=ke (x:=(cj g)) (p:=hA) eO kc fu hr d53 d54 d55 d56 d57 d58 i39 i40 i47 i48 i49
  exact cT S uj rfl uC
 have sl:=cl z8
 have z0:=cM sl
 refine S.bs 7 (.cons (aY fun w hw=>fU w (dk g.prog g.aN).x 0 99) .nil) (!(aS (dk g.prog g.aN).x 0 99)) (fun ac w β rj S=>?_) (fun ac w β rj S=>?_)
 ·have HJ:=cw rj
  have PL:=dC HJ
  refine S.aP 8 .nil [GT.val (cj g) hA] fun ac w β S=>?_
  have nX:=ke (x:=(cj g)) (p:=hA) eO kc fu hr d53 d54 d55 d56 d57 d58 i39 i40 i47 i48 i49
  exact cT S uj rfl nX
 have PW:=cl rj
 have aoD:=cM PW
 refine S.a8 13 .nil ((dk g.prog g.aN).hv==1) (fun ac w β Aa z2 S=>?_) (fun ac w β Aa z2 S=>?_)
 ·refine S.aP 16 .nil [GT.val (⟨(cj g).prog,(dk g.prog g.aN).x,(cj g).aN,(cj g).written,(cj g).live,(cj g).bH,(cj g).av,(cj g).exit,(cj g).halted,(cj g).seen⟩:az) (⟨hA.prog,hA.written,hA.live,hA.seen⟩:dB)] fun ac w β S=>?_
  have pB:=ke (x:=(⟨(cj g).prog,(dk g.prog g.aN).x,(cj g).aN,(cj g).written,(cj g).live,(cj g).bH,(cj g).av,(cj g).exit,(cj g).halted,(cj g).seen⟩:az)) (p:=(⟨hA.prog,hA.written,hA.live,hA.seen⟩:dB)) eO kc fu hr d53 d54 d55 d56 d57 d58 (k9.x (d:=(dk g.prog g.aN)) (sA (a5.prog (d:=g) (S.arg aJ)) g.aN)) i40 i47 i48 i49
  exact cT S uj rfl pB
 refine S.a8 9 .nil ((dk g.prog g.aN).hv==2) (fun ac w β acU abT S=>?_) (fun ac w β acU abT S=>?_)
 ·refine S.aP 20 (.cons (cO g.acc ((dk g.prog g.aN).x)) (.cons (rU (x:=(g.acc+(dk g.prog g.aN).x)) (y:=100) (by decide)) .nil)) [GT.val (⟨(cj g).prog,(Int.tmod (g.acc+(dk g.prog g.aN).x) 100),(cj g).aN,(cj g).written,(cj g).live,(cj g).bH,(cj g).av,(cj g).exit,(cj g).halted,(cj g).seen⟩:az) (⟨hA.prog,hA.written,hA.live,hA.seen⟩:dB)] fun ac w β S=>?_
  have oJ:=ke (x:=(⟨(cj g).prog,(Int.tmod (g.acc+(dk g.prog g.aN).x) 100),(cj g).aN,(cj g).written,(cj g).live,(cj g).bH,(cj g).av,(cj g).exit,(cj g).halted,(cj g).seen⟩:az)) (p:=(⟨hA.prog,hA.written,hA.live,hA.seen⟩:dB)) eO kc fu hr d53 d54 d55 d56 d57 d58 (show aq (Int.tmod (g.acc+(dk g.prog g.aN).x) 100) from Mo (by decide)) i40 i47 i48 i49
  exact cT S uj rfl oJ
 refine S.a8 7 .nil ((dk g.prog g.aN).hv==8) (fun ac w β PX abU S=>?_) (fun ac w β PX abU S=>?_)
 ·refine S.a8 7 .nil (g.acc==0) (fun ac w β acW abW S=>?_) (fun ac w β acW abW S=>?_)
  ·refine S.aP 16 .nil [GT.val (⟨(cj g).prog,(cj g).acc,(dk g.prog g.aN).x,(cj g).written,(cj g).live,(cj g).bH,(cj g).av,(cj g).exit,(cj g).halted,(cj g).seen⟩:az) (⟨hA.prog,hA.written,hA.live,hA.seen⟩:dB)] fun ac w β S=>?_
   have qp:=ke (x:=(⟨(cj g).prog,(cj g).acc,(dk g.prog g.aN).x,(cj g).written,(cj g).live,(cj g).bH,(cj g).av,(cj g).exit,(cj g).halted,(cj g).seen⟩:az)) (p:=(⟨hA.prog,hA.written,hA.live,hA.seen⟩:dB)) eO kc fu hr d53 d54 d55 d56 d57 d58 i39 (k9.x (d:=(dk g.prog g.aN)) (sA (a5.prog (d:=g) (S.arg aJ)) g.aN)) i47 i48 i49
   exact cT S uj rfl qp
  refine S.aP 11 .nil [GT.val (cj g) hA] fun ac w β S=>?_
  have oK:=ke (x:=(cj g)) (p:=hA) eO kc fu hr d53 d54 d55 d56 d57 d58 i39 i40 i47 i48 i49
  exact cT S uj rfl oK
 refine S.aP 18 .nil [GT.val (cj g) hA] fun ac w β S=>?_
 have uF:=ke (x:=(cj g)) (p:=hA) eO kc fu hr d53 d54 d55 d56 d57 d58 i39 i40 i47 i48 i49
 exact cT S uj rfl uF
theorem XA (w0:World) (n:Int) (bc:aq n):Calls Tryz.prog 140 [R n].toArray w0 (fun e w'=>e= .returned (GT.val (r7 n) ())/\bX aa w0 w'):=by
 refine Calls.run aa Tryz.func140 ?_
 intro ac β S
 have yb:=bc.b9;have x5:=bc.hi
 exact S.bb 13 (.cons (dY (s:=Instr.build 100 [(0,R 2),(3,R n)].toArray) (v:= .agg [R 2,R 0,B false,R n].toArray) (fun w=>by kernel_rfl)) .nil) [GT.val (⟨2,0,false,n⟩:dI) ()] (mq (p:=()) (by clear S;rfl))
theorem St {p:Prop} (h:p:=by clear S;(first|(unfold mN;rw [if_pos (by omega)];done)|(unfold mN;rw [if_pos (by omega)];first|rfl|(simp;done))|(unfold mN;rw [if_neg (by omega)];done)|(unfold mN;rw [if_neg (by omega)];first|rfl|(simp;done)))):p:=h
theorem Ym (w0:World) (b:a9) (aQ:ec) (hb:br w0 b aQ) (n:Int) (bc:aq n):Calls Tryz.prog 142 [GT.val b aQ,R n].toArray w0 (dZ aa w0 (mN b n:a9)):=by
 refine Calls.run aa Tryz.func142 ?_
 intro ac β S
 have iD:b.mem.length<=4194304:=ag.le (b_.mem (d:=b) hb)
 have iW:b.U.length<=4194304:=ag.le (b_.U (d:=b) hb)
 have iX:b.outs.length<=4194304:=ag.le (b_.outs (d:=b) hb)
 have yb:=bc.b9;have x5:=bc.hi
 refine S.go 9 .nil fun ac w β S=>S.ct (r:=b) (d:=7) (pU w b aQ (S.rd (S.arg hb))) fun ac w N ae aX S up au d4=>?_
 clear up d4
 have i14:aq b.av:=b_.av (d:=b) au.al
 obtain⟨de,eE,dy,a1,a6,aW,_,_,_,d15,d16,d17⟩:=wH au
 refine S.a8 13 .nil (decide ((b.outs.length:Int)<40)) (fun ac w β h2 tP S=>?_) (fun ac w β h2 tP S=>?_)
 ·refine S.go 5 .nil fun ac w β S=>S.hB (α:=Int) (x:=n) (p:=()) (F:=aa) bc (fun b h=>False.elim h) (fun b h=>False.elim h) (d:=15) fun ac w N sX u4 S up ll d23=>?_
  replace a1:=a1.up up
  replace a6:=a6.up up
  replace aW:=aW.up up
  clear up d23
  refine S.kj (α:=Int) aW ll.al (fun _ _ h=>h) (by':=8) (d:=16) (lx:=b.outs.length) (ly:=1) rfl rfl (show _<=4194304 by simp only [List.length_append,List.length_cons,List.length_nil];omega) fun ac w N g2 gW S up hq d30=>?_
  have d31:=d30 _ d16 a1.sub
  have d32:=d30 _ d17 a6.sub
  replace a1:=a1.bp d16 up
  replace a6:=a6.bp d17 up
  clear up d30
  refine S.aP 11 .nil [GT.val (⟨b.mem,b.U,(b.outs++[n]),b.av⟩:a9) (⟨ae.mem,ae.U,g2⟩:ec)] fun ac w β S=>?_
  have k4:=kN (x:=(⟨b.mem,b.U,(b.outs++[n]),b.av⟩:a9)) (p:=(⟨ae.mem,ae.U,g2⟩:ec)) a1 a6 hq d15 d31 d32 i14
  exact cT S St rfl k4
 refine S.aP 10 .nil [GT.val b ae] fun ac w β S=>?_
 have jy:=kN (x:=b) (p:=ae) a1 a6 aW d15 d16 d17 i14
 exact cT S St rfl jy
theorem pn {p:Prop} (h:p:=by clear S;(first|(rw [xb (.inl (by assumption))];done)|(rw [xb (.inr (.inl (by assumption)))];done)|(rw [xb (.inr (.inr (by omega)))];done)|(rw [NR (by assumption) (by assumption) (by omega)];first|(rw [Ch (by omega),s9 (by assumption)];first|done|rfl)|(rw [Ch (by omega),lR (by assumption) rfl];first|done|rfl)|(rw [Ch (by omega),lR (by assumption) (sW _ _)];first|done|rfl)|(rw [Ci (by omega),s9 (by assumption)];first|done|rfl)|(rw [Ci (by omega),lR (by assumption) rfl];first|done|rfl)|(rw [Ci (by omega),lR (by assumption) (sW _ _)];first|done|rfl)|(rw [KA (by omega) (by assumption),s9 (by assumption)];first|done|rfl)|(rw [KA (by omega) (by assumption),lR (by assumption) rfl];first|done|rfl)|(rw [KA (by omega) (by assumption),lR (by assumption) (sW _ _)];first|done|rfl)|(rw [KB (by omega) (by assumption),s9 (by assumption)];first|done|rfl)|(rw [KB (by omega) (by assumption),lR (by assumption) rfl];first|done|rfl)|(rw [KB (by omega) (by assumption),lR (by assumption) (sW _ _)];first|done|rfl)|(rw [Kz (by omega) (by assumption),s9 (by assumption)];first|done|rfl)|(rw [Kz (by omega) (by assumption),lR (by assumption) rfl];first|done|rfl)|(rw [Kz (by omega) (by assumption),lR (by assumption) (sW _ _)];first|done|rfl)|(rw [Ey (by omega),s9 (by assumption)];first|done|rfl)|(rw [Ey (by omega),lR (by assumption) rfl];first|done|rfl)|(rw [Ey (by omega),lR (by assumption) (sW _ _)];first|done|rfl)|(rw [Lg (by omega) (by assumption),s9 (by assumption)];first|done|rfl)|(rw [Lg (by omega) (by assumption),lR (by assumption) rfl];first|done|rfl)|(rw [Lg (by omega) (by assumption),lR (by assumption) (sW _ _)];first|done|rfl)|(rw [Lf (by omega) (by assumption),s9 (by assumption)];first|done|rfl)|(rw [Lf (by omega) (by assumption),lR (by assumption) rfl];first|done|rfl)|(rw [Lf (by omega) (by assumption),lR (by assumption) (sW _ _)];first|done|rfl)|(rw [Le (by omega) (by assumption),s9 (by assumption)];first|done|rfl)|(rw [Le (by omega) (by assumption),lR (by assumption) rfl];first|done|rfl)|(rw [Le (by omega) (by assumption),lR (by assumption) (sW _ _)];first|done|rfl)))):p:=h
theorem po {p:Prop} (h:p:=by clear S;(first|(rw [xb (.inl (by assumption))];done)|(rw [xb (.inr (.inl (by assumption)))];done)|(rw [xb (.inr (.inr (by omega)))];done)|(rw [NR (by assumption) (by assumption) (by omega)];done))):p:=h
theorem Xy (w0:World) (b:a9) (aQ:ec) (hb:br w0 b aQ) (g:Int):Calls Tryz.prog 75 [GT.val b aQ,R g].toArray w0 (fG aa w0 ((ig b g).1:a9) ((ig b g).2:Bool)):=by
 refine Calls.run aa Tryz.func75 ?_
 intro ac β S
 have iD:b.mem.length<=4194304:=ag.le (b_.mem (d:=b) hb)
 have iW:b.U.length<=4194304:=ag.le (b_.U (d:=b) hb)
 have iX:b.outs.length<=4194304:=ag.le (b_.outs (d:=b) hb)
 refine S.go 11 .nil fun ac w β S=>S.fk (r:=(aR b g).1) (r':=(aR b g).2) (d:=17) (Cq w b aQ (S.rd (S.arg hb)) g) fun ac w N ae eP cR fQ S up cG a1 d7 d8 d9=>?_
 clear up d7
 clear d8
 have pS:=BV (aR b g).1
 refine S.bs 22 (.cons (aY fun w hw=>zs w (aR b g).1 ae (cQ cG.al hw)) (.cons (aY fun w hw=>zp w b aQ (cQ (S.arg hb) hw)) .nil)) (!(hK b)) (fun ac w β gp S=>?_) (fun ac w β gp S=>?_)
 ·have eU:=cw gp
  refine S.go 13 .nil fun ac w β S=>S.ct (r:=b) (d:=34) (pU w b aQ (S.rd (S.arg hb))) fun ac w N ic e3 S up aT d16=>?_
  clear up d16
  refine S.aP 5 .nil [GT.val b ic,B false] fun ac w β S=>?_
  exact cB (p':=()) S pn po rfl rfl aT trivial
 have j7:=cl gp
 have q_:=zm j7
 refine S.bs 4 .nil (!(aR b g).2) (fun ac w β mR S=>?_) (fun ac w β mR S=>?_)
 ·have j8:=cw mR
  have Dc:=PR j8
  refine S.go 9 .nil fun ac w β S=>S.ct (r:=b) (d:=34) (pU w b aQ (S.rd (S.arg hb))) fun ac w N nC oa S up c4 d25=>?_
  clear up d25
  refine S.aP 5 .nil [GT.val b nC,B false] fun ac w β S=>?_
  exact cB (p':=()) S pn po rfl rfl c4 trivial
 have iV:=cl mR
 have tQ:=Dg iV
 refine S.a8 5 .nil ((b6 (aR b g).1)==0) (fun ac w β fo p_ S=>?_) (fun ac w β fo p_ S=>?_)
 ·refine S.go 4 .nil fun ac w β S=>S.ct (r:=b) (d:=34) (pU w b aQ (S.rd (S.arg hb))) fun ac w N fI fZ S up eV d33=>?_
  clear up d33
  refine S.aP 5 .nil [GT.val b fI,B false] fun ac w β S=>?_
  exact cB (p':=()) S pn po rfl rfl eV trivial
 refine S.a8 34 (.cons (aY fun w hw=>NW w (aR b g).1 ae (cQ cG.al hw)) (.cons (aY fun w hw=>vg w (aR b g).1.prog ae.prog (cQ (a5.prog (d:=(aR b g).1) cG.al) hw) (aR b g).1.aN) .nil)) ((b6 (aR b g).1)==1) (fun ac w β tV Hj S=>?_) (fun ac w β tV Hj S=>?_)
 ·refine S.go 2 .nil fun ac w β S=>?_
  refine dj ?_
  refine S.df (f:=7) 5 (by kernel_rfl) (by kernel_rfl) fun w S=>?_
  refine S.hm 4 [0,1,2] [] [(45,.v (GT.val b aQ)),(46,.v (R g)),(47,.v (GT.val (aR b g).1 ae))] .nil fun ac S=>?_
  refine ao.one (i:=3) (by kernel_rfl) ?_
  refine id (S.cH 48 (X_ w (aR b g).1 ae (S.rd cG.al)) fun ac w N e6 gy S up gT d39=>?_)
  refine ao.next S up (by kernel_rfl) ?_
  replace cG:=cG.up up
  clear up d39
  refine ao.one (i:=4) (by kernel_rfl) ?_
  refine id (S.cH 49 (qW w b aQ (S.rd (S.arg hb)) g (p1 (aR b g).1) e6 (S.rd gT.al)) fun ac w N rJ u6 S up oH d44=>?_)
  refine ao.next S up (by kernel_rfl) ?_
  replace cG:=cG.up up
  clear up d44
  refine S.b8 5 [] [] 4 [(1,GT.cells (iT b g (p1 (aR b g).1)) rJ)] .nil fun ac w β S=>?_
  refine S.b8 6 [] [(5,.v (B true))] 4 [] .nil fun ac w β S=>?_
  refine ao.done (by kernel_rfl) ?_ _
  refine S.ex fun S=>?_
  refine S.aP 2 .nil [GT.val (iT b g (p1 (aR b g).1)) rJ,B true] fun ac w β S=>?_
  exact cB (p':=()) S pn po rfl rfl oH trivial
 refine S.a8 7 .nil ((b6 (aR b g).1)==2) (fun ac w β pc zY S=>?_) (fun ac w β pc zY S=>?_)
 ·refine S.go 2 .nil fun ac w β S=>?_
  refine dj ?_
  refine S.df (f:=7) 5 (by kernel_rfl) (by kernel_rfl) fun w S=>?_
  refine S.hm 4 [0,1,2] [] [(52,.v (GT.val b aQ)),(53,.v (R g)),(54,.v (GT.val (aR b g).1 ae))] .nil fun ac S=>?_
  refine ao.one (i:=3) (by kernel_rfl) ?_
  refine id (S.cH 55 (Yi w (aR b g).1 ae (S.rd cG.al)) fun ac w N qu oX S up hr d52=>?_)
  refine ao.next S up (by kernel_rfl) ?_
  replace cG:=cG.up up
  clear up d52
  refine ao.one (i:=4) (by kernel_rfl) ?_
  refine id (S.cH 56 (qW w b aQ (S.rd (S.arg hb)) g (p6 (aR b g).1) qu (S.rd hr.al)) fun ac w N pG oY S up kd d57=>?_)
  refine ao.next S up (by kernel_rfl) ?_
  replace cG:=cG.up up
  clear up d57
  refine S.b8 5 [] [] 4 [(1,GT.cells (iT b g (p6 (aR b g).1)) pG)] .nil fun ac w β S=>?_
  refine S.b8 6 [] [(5,.v (B true))] 4 [] .nil fun ac w β S=>?_
  refine ao.done (by kernel_rfl) ?_ _
  refine S.ex fun S=>?_
  refine S.aP 2 .nil [GT.val (iT b g (p6 (aR b g).1)) pG,B true] fun ac w β S=>?_
  exact cB (p':=()) S pn po rfl rfl kd trivial
 refine S.go 8 .nil fun ac w β S=>?_
 refine S.r4 ⟨[(1,.v (R g)),(2,.p 0 0),(4,.p 1 0),(6,.p 2 0),(8,.v (R (b6 (aR b g).1))),(9,.v (R (ch (aR b g).1))),(10,.p 3 0),(42,.v (R (b6 (aR b g).1))),(57,.v (B (((b6 (aR b g).1)==3)||((b6 (aR b g).1)==4))))],[GT.cells b aQ,c2 a9,GT.cells (aR b g).1 ae,GT.cells (dk (aR b g).1.prog (aR b g).1.aN) ()]⟩ ?_ ?_
 ·clear S;intro S
  refine S.a8 0 .nil ((b6 (aR b g).1)==3) (fun ac w β z9 PJ S=>?_) (fun ac w β z9 PJ S=>?_)
  ·exact S.e5 2 .nil fun ac w β S=>⟨rfl,_,by rw [z9];exact S.z⟩
  exact S.e5 5 .nil fun ac w β S=>⟨rfl,_,by rw [z9];exact S.z⟩
 clear S;intro ac w β S
 refine S.bs 1 .nil (((b6 (aR b g).1)==3)||((b6 (aR b g).1)==4)) (fun ac w β z_ S=>?_) (fun ac w β z_ S=>?_)
 ·have PK:=G1 z_
  refine S.bs 20 (.cons (aY fun w hw=>r2 w (ch (aR b g).1) (m3 cG.al)) (.cons (aY fun w hw=>Ga w ((b6 (aR b g).1)==4)) (.cons (aY fun w hw=>Gf w (aR b g).1.live ae.live (cQ (a5.live (d:=(aR b g).1) cG.al) hw) (a7 (ch (aR b g).1)) (gB ((b6 (aR b g).1)==4))) .nil))) (!(c6 (aR b g).1.live (a7 (ch (aR b g).1)) (gB ((b6 (aR b g).1)==4))).2) (fun ac w β HI S=>?_) (fun ac w β HI S=>?_)
  ·have rj:=cw HI
   refine S.go 2 .nil fun ac w β S=>?_
   refine dj ?_
   refine S.df (f:=11) 9 (by kernel_rfl) (by kernel_rfl) fun w S=>?_
   refine S.hm 6 [0,1,2,3,5] [] [(75,.v (GT.val b aQ)),(76,.v (R g)),(77,.v (GT.val (aR b g).1 ae)),(78,.v (R (ch (aR b g).1))),(80,.v (B ((b6 (aR b g).1)==4)))] .nil fun ac S=>?_
   refine S.jk 4 [] [(79,.v (R (a7 (ch (aR b g).1))))] 4 [] (.cons (aY fun w hw=>r2 w (ch (aR b g).1) (m3 cG.al)) .nil) fun ac w β S=>?_
   refine S.jk 6 [] [(81,.v (GT.val (kB (a7 (ch (aR b g).1)) ((b6 (aR b g).1)==4)) ()))] 4 [] (.cons (aY fun w hw=>N2 w (a7 (ch (aR b g).1)) (qS (m3 cG.al)) ((b6 (aR b g).1)==4)) .nil) fun ac w β S=>?_
   refine ao.one (i:=7) (by kernel_rfl) ?_
   refine id (S.cH 82 (vh w (aR b g).1 ae (S.rd cG.al) (kB (a7 (ch (aR b g).1)) ((b6 (aR b g).1)==4)) (Po (qS (m3 cG.al)) ((b6 (aR b g).1)==4))) fun ac w N nE ob S up nX d69=>?_)
   refine ao.next S up (by kernel_rfl) ?_
   replace cG:=cG.up up
   clear up d69
   refine ao.one (i:=8) (by kernel_rfl) ?_
   refine id (S.cH 83 (qW w b aQ (S.rd (S.arg hb)) g ({(aR b g).1 with exit:=(kB (a7 (ch (aR b g).1)) ((b6 (aR b g).1)==4))}:az) nE (S.rd nX.al)) fun ac w N yO td S up pB d74=>?_)
   refine ao.next S up (by kernel_rfl) ?_
   replace cG:=cG.up up
   clear up d74
   refine S.b8 9 [] [] 4 [(1,GT.cells (iT b g ({(aR b g).1 with exit:=(kB (a7 (ch (aR b g).1)) ((b6 (aR b g).1)==4))}:az)) yO)] .nil fun ac w β S=>?_
   refine S.b8 10 [] [(5,.v (B true))] 4 [] .nil fun ac w β S=>?_
   refine ao.done (by kernel_rfl) ?_ _
   refine S.ex fun S=>?_
   refine S.aP 2 .nil [GT.val (iT b g ({(aR b g).1 with exit:=(kB (a7 (ch (aR b g).1)) ((b6 (aR b g).1)==4))}:az)) yO,B true] fun ac w β S=>?_
   exact cB (p':=()) S pn po rfl rfl pB trivial
  have PX:=cl HI
  refine S.a8 7 .nil ((b6 (aR b g).1)==4) (fun ac w β HK abV S=>?_) (fun ac w β HK abV S=>?_)
  ·refine S.go 2 .nil fun ac w β S=>?_
   refine dj ?_
   refine S.df (f:=10) 9 (by kernel_rfl) (by kernel_rfl) fun w S=>?_
   refine S.hm 4 [0,1,2,3,5,6] [] [(87,.v (ab b.mem.length aQ.mem.1)),(88,.v (R (c6 (aR b g).1.live (a7 (ch (aR b g).1)) (gB ((b6 (aR b g).1)==4))).1)),(89,.v (R (ch (aR b g).1))),(92,.v (R (aR b g).1.acc))] .nil fun ac S=>?_
   refine S.jk 4 [] [(90,.v (R (dK (ch (aR b g).1))))] 4 [] (.cons (aY fun w hw=>xd w (ch (aR b g).1) (m3 cG.al)) .nil) fun ac w β S=>?_
   refine ao.one (i:=7) (by kernel_rfl) ?_
   refine id (S.cH 93 (zt w b.mem aQ.mem (S.rd (b_.mem (d:=b) (S.arg hb))) (c6 (aR b g).1.live (a7 (ch (aR b g).1)) (gB ((b6 (aR b g).1)==4))).1 (dK (ch (aR b g).1)) (aR b g).1.acc (a5.acc (d:=(aR b g).1) cG.al)) fun ac w N Bl Wm S up oK d83=>?_)
   refine ao.next S up (by kernel_rfl) ?_
   replace cG:=cG.up up
   clear up d83
   refine S.aI 8 [8] [] [(94,.p 0 0)] .nil fun ac S=>?_
   refine S.b8 9 [] [] 4 [(0,[ab (gm b.mem (c6 (aR b g).1.live (a7 (ch (aR b g).1)) (gB ((b6 (aR b g).1)==4))).1 (dK (ch (aR b g).1)) (aR b g).1.acc).length Bl.1,ab b.U.length aQ.U.1,ab b.outs.length aQ.outs.1,R b.av])] .nil fun ac w β S=>?_
   refine ao.done (by kernel_rfl) ?_ _
   refine S.ex fun S=>?_
   refine S.go 2 .nil fun ac w β S=>?_
   refine dj ?_
   refine S.df (f:=7) 5 (by kernel_rfl) (by kernel_rfl) fun w S=>?_
   refine S.hm 4 [0,1,2] [] [(95,.v (GT.val (⟨(gm b.mem (c6 (aR b g).1.live (a7 (ch (aR b g).1)) (gB ((b6 (aR b g).1)==4))).1 (dK (ch (aR b g).1)) (aR b g).1.acc),b.U,b.outs,b.av⟩:a9) (⟨Bl,aQ.U,aQ.outs⟩:ec))),(96,.v (R g)),(97,.v (GT.val (aR b g).1 ae))] .nil fun ac S=>?_
   refine ao.one (i:=3) (by kernel_rfl) ?_
   refine id (S.cH 98 (Oe w (aR b g).1 ae (S.rd cG.al)) fun ac w N ey ff S up wq d88=>?_)
   refine ao.next S up (by kernel_rfl) ?_
   replace cG:=cG.up up
   replace oK:=oK.up up
   clear up d88
   refine ao.one (i:=4) (by kernel_rfl) ?_
   refine id (S.cH 99 (qW w (⟨(gm b.mem (c6 (aR b g).1.live (a7 (ch (aR b g).1)) (gB ((b6 (aR b g).1)==4))).1 (dK (ch (aR b g).1)) (aR b g).1.acc),b.U,b.outs,b.av⟩:a9) (⟨Bl,aQ.U,aQ.outs⟩:ec) (S.rd (show GT.rd bz _ _ (⟨(gm b.mem (c6 (aR b g).1.live (a7 (ch (aR b g).1)) (gB ((b6 (aR b g).1)==4))).1 (dK (ch (aR b g).1)) (aR b g).1.acc),b.U,b.outs,b.av⟩:a9) (⟨Bl,aQ.U,aQ.outs⟩:ec) from⟨oK.al,(b_.U (p:=aQ) (d:=b) (S.arg hb)),(b_.outs (p:=aQ) (d:=b) (S.arg hb)),(b_.av (d:=b) (S.arg hb))⟩)) g (cj (aR b g).1) ey (S.rd wq.al)) fun ac w N Uq am5 S up sO d94=>?_)
   refine ao.next S up (by kernel_rfl) ?_
   replace cG:=cG.up up
   clear up d94
   refine S.b8 5 [] [] 4 [(1,GT.cells (iT (⟨(gm b.mem (c6 (aR b g).1.live (a7 (ch (aR b g).1)) (gB ((b6 (aR b g).1)==4))).1 (dK (ch (aR b g).1)) (aR b g).1.acc),b.U,b.outs,b.av⟩:a9) g (cj (aR b g).1)) Uq)] .nil fun ac w β S=>?_
   refine S.b8 6 [] [(5,.v (B true))] 4 [] .nil fun ac w β S=>?_
   refine ao.done (by kernel_rfl) ?_ _
   refine S.ex fun S=>?_
   refine S.aP 2 .nil [GT.val (iT (⟨(gm b.mem (c6 (aR b g).1.live (a7 (ch (aR b g).1)) (gB ((b6 (aR b g).1)==4))).1 (dK (ch (aR b g).1)) (aR b g).1.acc),b.U,b.outs,b.av⟩:a9) g (cj (aR b g).1)) Uq,B true] fun ac w β S=>?_
   exact cB (p':=()) S pn po rfl rfl sO trivial
  refine S.go 5 .nil fun ac w β S=>?_
  refine dj ?_
  refine S.df (f:=13) 11 (by kernel_rfl) (by kernel_rfl) fun w S=>?_
  refine S.hm 6 [0,1,2,3,4,5,6] [] [(100,.v (GT.val b aQ)),(101,.v (R g)),(102,.v (GT.val (aR b g).1 ae)),(104,.v (ab b.mem.length aQ.mem.1)),(105,.v (R (c6 (aR b g).1.live (a7 (ch (aR b g).1)) (gB ((b6 (aR b g).1)==4))).1)),(106,.v (R (ch (aR b g).1)))] .nil fun ac S=>?_
  refine S.jk 7 [] [(107,.v (R (dK (ch (aR b g).1))))] 4 [] (.cons (aY fun w hw=>xd w (ch (aR b g).1) (m3 cG.al)) .nil) fun ac w β S=>?_
  refine S.jk 8 [] [(108,.v (R (gZ b.mem (c6 (aR b g).1.live (a7 (ch (aR b g).1)) (gB ((b6 (aR b g).1)==4))).1 (dK (ch (aR b g).1)))))] 4 [] (.cons (aY fun w hw=>F6 w b.mem aQ.mem (cQ (b_.mem (d:=b) (S.arg hb)) hw) (c6 (aR b g).1.live (a7 (ch (aR b g).1)) (gB ((b6 (aR b g).1)==4))).1 (dK (ch (aR b g).1))) .nil) fun ac w β S=>?_
  refine ao.one (i:=9) (by kernel_rfl) ?_
  refine id (S.cH 109 (N9 w (aR b g).1 ae (S.rd cG.al) (gZ b.mem (c6 (aR b g).1.live (a7 (ch (aR b g).1)) (gB ((b6 (aR b g).1)==4))).1 (dK (ch (aR b g).1))) (Gm (b_.mem (d:=b) (S.arg hb)) (c6 (aR b g).1.live (a7 (ch (aR b g).1)) (gB ((b6 (aR b g).1)==4))).1 (dK (ch (aR b g).1)))) fun ac w N LR Nj S up A1 d101=>?_)
  refine ao.next S up (by kernel_rfl) ?_
  replace cG:=cG.up up
  clear up d101
  refine ao.one (i:=10) (by kernel_rfl) ?_
  refine id (S.cH 110 (qW w b aQ (S.rd (S.arg hb)) g (k0 (aR b g).1 (gZ b.mem (c6 (aR b g).1.live (a7 (ch (aR b g).1)) (gB ((b6 (aR b g).1)==4))).1 (dK (ch (aR b g).1)))) LR (S.rd A1.al)) fun ac w N ib e2 S up gE d106=>?_)
  refine ao.next S up (by kernel_rfl) ?_
  replace cG:=cG.up up
  clear up d106
  refine S.b8 11 [] [] 4 [(1,GT.cells (iT b g (k0 (aR b g).1 (gZ b.mem (c6 (aR b g).1.live (a7 (ch (aR b g).1)) (gB ((b6 (aR b g).1)==4))).1 (dK (ch (aR b g).1))))) ib)] .nil fun ac w β S=>?_
  refine S.b8 12 [] [(5,.v (B true))] 4 [] .nil fun ac w β S=>?_
  refine ao.done (by kernel_rfl) ?_ _
  refine S.ex fun S=>?_
  refine S.aP 2 .nil [GT.val (iT b g (k0 (aR b g).1 (gZ b.mem (c6 (aR b g).1.live (a7 (ch (aR b g).1)) (gB ((b6 (aR b g).1)==4))).1 (dK (ch (aR b g).1))))) ib,B true] fun ac w β S=>?_
  exact cB (p':=()) S pn po rfl rfl gE trivial
 obtain⟨acg,ach⟩:=oL z_
 have aoq:¬((b6 (aR b g).1)=3):=ne_of_beq_false acg
 have aor:¬((b6 (aR b g).1)=4):=ne_of_beq_false ach
 refine S.a8 7 .nil ((b6 (aR b g).1)==6) (fun ac w β aci abj S=>?_) (fun ac w β aci abj S=>?_)
 ·refine S.go 2 .nil fun ac w β S=>?_
  refine dj ?_
  refine S.df (f:=10) 8 (by kernel_rfl) (by kernel_rfl) fun w S=>?_
  refine S.hm 5 [0,1,2,3,4] [] [(113,.v (GT.val b aQ)),(114,.v (R g)),(115,.v (GT.val (aR b g).1 ae)),(117,.v (R (dk (aR b g).1.prog (aR b g).1.aN).x))] .nil fun ac S=>?_
  refine S.jk 5 [] [(118,.v (GT.val (r7 (dk (aR b g).1.prog (aR b g).1.aN).x) ()))] 4 [] (.cons (aY fun w hw=>XA w (dk (aR b g).1.prog (aR b g).1.aN).x (k9.x (d:=(dk (aR b g).1.prog (aR b g).1.aN)) (sA (a5.prog (d:=(aR b g).1) cG.al) (aR b g).1.aN))) .nil) fun ac w β S=>?_
  refine ao.one (i:=6) (by kernel_rfl) ?_
  refine id (S.cH 119 (vh w (aR b g).1 ae (S.rd cG.al) (r7 (dk (aR b g).1.prog (aR b g).1.aN).x) (Zf (k9.x (d:=(dk (aR b g).1.prog (aR b g).1.aN)) (sA (a5.prog (d:=(aR b g).1) cG.al) (aR b g).1.aN)))) fun ac w N ajg Ft S up A2 d118=>?_)
  refine ao.next S up (by kernel_rfl) ?_
  replace cG:=cG.up up
  clear up d118
  refine ao.one (i:=7) (by kernel_rfl) ?_
  refine id (S.cH 120 (qW w b aQ (S.rd (S.arg hb)) g ({(aR b g).1 with exit:=(r7 (dk (aR b g).1.prog (aR b g).1.aN).x)}:az) ajg (S.rd A2.al)) fun ac w N T_ al7 S up sL d123=>?_)
  refine ao.next S up (by kernel_rfl) ?_
  replace cG:=cG.up up
  clear up d123
  refine S.b8 8 [] [] 4 [(1,GT.cells (iT b g ({(aR b g).1 with exit:=(r7 (dk (aR b g).1.prog (aR b g).1.aN).x)}:az)) T_)] .nil fun ac w β S=>?_
  refine S.b8 9 [] [(5,.v (B true))] 4 [] .nil fun ac w β S=>?_
  refine ao.done (by kernel_rfl) ?_ _
  refine S.ex fun S=>?_
  refine S.aP 2 .nil [GT.val (iT b g ({(aR b g).1 with exit:=(r7 (dk (aR b g).1.prog (aR b g).1.aN).x)}:az)) T_,B true] fun ac w β S=>?_
  exact cB (p':=()) S pn po rfl rfl sL trivial
 refine S.bs 9 (.cons (aY fun w hw=>On w (b6 (aR b g).1)) (.cons (aY fun w hw=>F9 w (aR b g).1.bH.bQ (lF (b6 (aR b g).1))) .nil)) (kn (aR b g).1.bH.bQ (lF (b6 (aR b g).1))) (fun ac w β acm S=>?_) (fun ac w β acm S=>?_)
 ·refine S.go 2 .nil fun ac w β S=>?_
  refine dj ?_
  refine S.df (f:=8) 6 (by kernel_rfl) (by kernel_rfl) fun w S=>?_
  refine S.hm 4 [0,1,2,3] [] [(128,.v (GT.val b aQ)),(129,.v (R g)),(130,.v (GT.val (aR b g).1 ae)),(131,.v (R (b6 (aR b g).1)))] .nil fun ac S=>?_
  refine ao.one (i:=4) (by kernel_rfl) ?_
  refine id (S.cH 132 (Oo w (aR b g).1 ae (S.rd cG.al) (b6 (aR b g).1)) fun ac w N LF M3 S up KT d130=>?_)
  refine ao.next S up (by kernel_rfl) ?_
  replace cG:=cG.up up
  clear up d130
  refine ao.one (i:=5) (by kernel_rfl) ?_
  refine id (S.cH 133 (qW w b aQ (S.rd (S.arg hb)) g (oq (aR b g).1 (b6 (aR b g).1)) LF (S.rd KT.al)) fun ac w N Ua al_ S up ag_ d135=>?_)
  refine ao.next S up (by kernel_rfl) ?_
  replace cG:=cG.up up
  clear up d135
  refine S.b8 6 [] [] 4 [(1,GT.cells (iT b g (oq (aR b g).1 (b6 (aR b g).1))) Ua)] .nil fun ac w β S=>?_
  refine S.b8 7 [] [(5,.v (B true))] 4 [] .nil fun ac w β S=>?_
  refine ao.done (by kernel_rfl) ?_ _
  refine S.ex fun S=>?_
  refine S.aP 2 .nil [GT.val (iT b g (oq (aR b g).1 (b6 (aR b g).1))) Ua,B true] fun ac w β S=>?_
  exact cB (p':=()) S pn po rfl rfl ag_ trivial
 refine S.a8 8 .nil ((b6 (aR b g).1)==5) (fun ac w β acr abo S=>?_) (fun ac w β acr abo S=>?_)
 ·refine S.go 2 .nil fun ac w β S=>?_
  refine dj ?_
  refine S.df (f:=10) 8 (by kernel_rfl) (by kernel_rfl) fun w S=>?_
  refine S.hm 5 [0,1,2,4,5] [] [(137,.v (GT.val b aQ)),(139,.v (R (dk (aR b g).1.prog (aR b g).1.aN).x)),(141,.v (R g)),(142,.v (GT.val (aR b g).1 ae))] .nil fun ac S=>?_
  refine ao.one (i:=3) (by kernel_rfl) ?_
  refine id (S.cH 140 (Ym w b aQ (S.rd (S.arg hb)) (dk (aR b g).1.prog (aR b g).1.aN).x (k9.x (d:=(dk (aR b g).1.prog (aR b g).1.aN)) (sA (a5.prog (d:=(aR b g).1) cG.al) (aR b g).1.aN))) fun ac w N ajk ama S up KV d143=>?_)
  refine ao.next S up (by kernel_rfl) ?_
  replace cG:=cG.up up
  clear up d143
  refine ao.one (i:=6) (by kernel_rfl) ?_
  refine id (S.cH 143 (tp w (aR b g).1 ae (S.rd cG.al)) fun ac w N ajl amb S up aha d148=>?_)
  refine ao.next S up (by kernel_rfl) ?_
  replace cG:=cG.up up
  replace KV:=KV.up up
  clear up d148
  refine ao.one (i:=7) (by kernel_rfl) ?_
  refine id (S.cH 144 (qW w (mN b (dk (aR b g).1.prog (aR b g).1.aN).x) ajk (S.rd KV.al) g (cj (aR b g).1) ajl (S.rd aha.al)) fun ac w N yI Vu S up KZ d154=>?_)
  refine ao.next S up (by kernel_rfl) ?_
  replace cG:=cG.up up
  clear up d154
  refine S.b8 8 [] [] 4 [(1,GT.cells (iT (mN b (dk (aR b g).1.prog (aR b g).1.aN).x) g (cj (aR b g).1)) yI)] .nil fun ac w β S=>?_
  refine S.b8 9 [] [(5,.v (B true))] 4 [] .nil fun ac w β S=>?_
  refine ao.done (by kernel_rfl) ?_ _
  refine S.ex fun S=>?_
  refine S.aP 2 .nil [GT.val (iT (mN b (dk (aR b g).1.prog (aR b g).1.aN).x) g (cj (aR b g).1)) yI,B true] fun ac w β S=>?_
  exact cB (p':=()) S pn po rfl rfl KZ trivial
 refine S.go 5 .nil fun ac w β S=>?_
 refine dj ?_
 refine S.df (f:=7) 5 (by kernel_rfl) (by kernel_rfl) fun w S=>?_
 refine S.hm 4 [0,1,2] [] [(145,.v (GT.val b aQ)),(146,.v (R g)),(147,.v (GT.val (aR b g).1 ae))] .nil fun ac S=>?_
 refine ao.one (i:=3) (by kernel_rfl) ?_
 refine id (S.cH 148 (F_ w (aR b g).1 ae (S.rd cG.al)) fun ac w N ajp amg S up ahe d161=>?_)
 refine ao.next S up (by kernel_rfl) ?_
 clear up d161
 refine ao.one (i:=4) (by kernel_rfl) ?_
 refine id (S.cH 149 (qW w b aQ (S.rd (S.arg hb)) g (iN (aR b g).1) ajp (S.rd ahe.al)) fun ac w N LG Vw S up ahg d166=>?_)
 refine ao.next S up (by kernel_rfl) ?_
 clear up d166
 refine S.b8 5 [] [] 4 [(1,GT.cells (iT b g (iN (aR b g).1)) LG)] .nil fun ac w β S=>?_
 refine S.b8 6 [] [(5,.v (B true))] 4 [] .nil fun ac w β S=>?_
 refine ao.done (by kernel_rfl) ?_ _
 refine S.ex fun S=>?_
 refine S.aP 2 .nil [GT.val (iT b g (iN (aR b g).1)) LG,B true] fun ac w β S=>?_
 exact cB (p':=()) S pn po rfl rfl ahg trivial
theorem JX {p:Prop} (h:p:=by clear S;subst rk;(first|(rw [DH (by assumption)];done)|(rw [DI (by assumption)];done)|(rw [DJ (by assumption) (by assumption)];done)|(rw [DK (by assumption) (by assumption)];done)|(rw [R1 (by assumption) (by assumption) (by assumption) (by omega)];done)|(rw [R0 (by assumption) (by assumption) (by assumption) (by omega)];done)|(rw [yg (by assumption) (by assumption) (by assumption) (by assumption)];first|rfl|(simp only [RL (show b6 (el (aC h m).1.U g.toNat)=3\/b6 (el (aC h m).1.U g.toNat)=4 by omega),xI,oj,p8];simp_all;done)))):p:=h
theorem yt {p:Prop} (h:p:=by clear S;(first|(rw [DH (by assumption)];done)|(rw [DI (by assumption)];done)|(rw [DJ (by assumption) (by assumption)];done)|(rw [DK (by assumption) (by assumption)];done)|(rw [R1 (by assumption) (by assumption) (by assumption) (by omega)];done)|(rw [R0 (by assumption) (by assumption) (by assumption) (by omega)];done)|(rw [yg (by assumption) (by assumption) (by assumption) (by assumption)];first|rfl|(simp only [RL (show b6 (el (aC h m).1.U g.toNat)=3\/b6 (el (aC h m).1.U g.toNat)=4 by omega),xI,oj,p8];simp_all;done)))):p:=h
theorem J_ {p:Prop} (h:p:=by clear S;subst rk;(first|(rw [DH (by assumption)];done)|(rw [DI (by assumption)];done)|(rw [DJ (by assumption) (by assumption)];done)|(rw [DK (by assumption) (by assumption)];done)|(rw [yg (by assumption) (by assumption) (by assumption) (by assumption)];done))):p:=h
theorem yu {p:Prop} (h:p:=by clear S;(first|(rw [DH (by assumption)];done)|(rw [DI (by assumption)];done)|(rw [DJ (by assumption) (by assumption)];done)|(rw [DK (by assumption) (by assumption)];done)|(rw [yg (by assumption) (by assumption) (by assumption) (by assumption)];done))):p:=h
theorem X8 (w0:World) (h:ad) (aK:cK) (ax:br w0 h aK) (m:Int) (g:Int):Calls Tryz.prog 29 [GT.val h aK,R m,R g].toArray w0 (fG aa w0 ((ix h m g).1:ad) ((ix h m g).2:Bool)):=by
 refine Calls.run aa Tryz.func29 ?_
 intro ac β S
 have gO:h.mem.length<=4194304:=ag.le (a4.mem (d:=h) ax)
 have gP:h.I.length<=4194304:=ag.le (a4.I (d:=h) ax)
 have gM:h.buf.length<=4194304:=ag.le (a4.buf (d:=h) ax)
 have gN:h.ar.length<=4194304:=ag.le (a4.ar (d:=h) ax)
 refine S.go 10 .nil fun ac w β S=>S.ct (r:=h) (d:=21) (hn w h aK (S.rd (S.arg ax))) fun ac w N ae aX S up au d4=>?_
 clear up d4
 obtain⟨de,eE,dy,e3,a1,a6,aW,aT,_,_,_,_,d17,d18,d19,d20,d21,d22⟩:=n5 au
 refine S.go 8 .nil fun ac w β S=>S.fk (r:=(aC h m).1) (r':=(aC h m).2) (d:=25) (Cs w h aK (S.rd (S.arg ax)) m) fun ac w N e0 eA c5 eu S up cN eo d29 d30 d31=>?_
 replace a1:=a1.up up
 replace a6:=a6.up up
 replace aW:=aW.up up
 replace aT:=aT.up up
 clear up d29
 clear d30
 refine S.bs 15 (.cons (aY fun w hw=>tn w h aK (cQ (S.arg ax) hw)) .nil) (!(dg h)) (fun ac w β si S=>?_) (fun ac w β si S=>?_)
 ·have nQ:=cw si
  refine S.aP 31 .nil [GT.val h ae,B false] fun ac w β S=>?_
  have kc:=hz (x:=h) (p:=ae) a1 a6 aW aT d17 d18 d19 d20 d21 d22
  exact cB (p':=()) S yt yu rfl rfl kc trivial
 have rh:=cl si
 have Hn:=oA rh
 refine S.bs 4 .nil (!(aC h m).2) (fun ac w β lg S=>?_) (fun ac w β lg S=>?_)
 ·have nn:=cw lg
  refine S.aP 27 .nil [GT.val h ae,B false] fun ac w β S=>?_
  have sN:=hz (x:=h) (p:=ae) a1 a6 aW aT d17 d18 d19 d20 d21 d22
  exact cB (p':=()) S yt yu rfl rfl sN trivial
 have vE:=cl lg
 have abN:=sH vE
 refine S.bs 8 (.cons (aY fun w hw=>gJ w g ((aC h m).1.U.length:Int) (by omega)) .nil) (!(aS g 0 (((aC h m).1.U.length:Int)-1))) (fun ac w β z6 S=>?_) (fun ac w β z6 S=>?_)
 ·have sk:=cw z6
  have abO:=dC sk
  refine S.aP 19 .nil [GT.val h ae,B false] fun ac w β S=>?_
  have rB:=hz (x:=h) (p:=ae) a1 a6 aW aT d17 d18 d19 d20 d21 d22
  exact cB (p':=()) S yt yu rfl rfl rB trivial
 have acS:=cl z6
 have aoC:=cM acS
 have NQ:=BV (el (aC h m).1.U g.toNat)
 refine S.a8 10 (.cons (cP (bn.U (d:=(aC h m).1) cN.al) g Tryz.underlying68) (.cons (dR (bn.U (d:=(aC h m).1) cN.al) 102 g.toNat) (.cons (aY fun w hw=>zs w (el (aC h m).1.U g.toNat) (e0.U.2 g.toNat) (cQ (ag.el (bn.U (d:=(aC h m).1) cN.al) g.toNat (by omega)) hw)) .nil))) ((b6 (el (aC h m).1.U g.toNat))==0) (fun ac w β vF zZ S=>?_) (fun ac w β vF zZ S=>?_)
 ·refine S.aP 9 .nil [GT.val h ae,B false] fun ac w β S=>?_
  have lJ:=hz (x:=h) (p:=ae) a1 a6 aW aT d17 d18 d19 d20 d21 d22
  exact cB (p':=()) S yt yu rfl rfl lJ trivial
 have anu:=BV (el (aC h m).1.U g.toNat)
 refine S.go 42 (.cons (cP (bn.U (d:=(aC h m).1) cN.al) g Tryz.underlying68) (.cons (dR (bn.U (d:=(aC h m).1) cN.al) 102 g.toNat) (.cons (aY fun w hw=>zs w (el (aC h m).1.U g.toNat) (e0.U.2 g.toNat) (cQ (ag.el (bn.U (d:=(aC h m).1) cN.al) g.toNat (by omega)) hw)) (.cons (aY fun w hw=>NW w (el (aC h m).1.U g.toNat) (e0.U.2 g.toNat) (cQ (ag.el (bn.U (d:=(aC h m).1) cN.al) g.toNat (by omega)) hw)) .nil)))) fun ac w β S=>?_
 refine S.r4 ⟨[(1,.v (R m)),(2,.v (R g)),(3,.p 0 0),(6,.p 1 0),(8,.p 2 0),(11,.p 4 0),(12,.v (R (b6 (el (aC h m).1.U g.toNat)))),(13,.v (R (ch (el (aC h m).1.U g.toNat)))),(62,.v (R (b6 (el (aC h m).1.U g.toNat)))),(63,.v (B (((b6 (el (aC h m).1.U g.toNat))==3)||((b6 (el (aC h m).1.U g.toNat))==4))))],[GT.cells h aK,c2 ad,[ab h.mem.length ae.mem.1,ab h.I.length ae.I.1,ab h.buf.length ae.buf.1,ab h.ar.length ae.ar.1],GT.cells (aC h m).1 e0,GT.cells (el (aC h m).1.U g.toNat) (e0.U.2 g.toNat)]⟩ ?_ ?_
 ·clear S;intro S
  refine S.a8 0 .nil ((b6 (el (aC h m).1.U g.toNat))==3) (fun ac w β qb abS S=>?_) (fun ac w β qb abS S=>?_)
  ·exact S.e5 2 .nil fun ac w β S=>⟨rfl,_,by rw [qb];exact S.z⟩
  exact S.e5 5 .nil fun ac w β S=>⟨rfl,_,by rw [qb];exact S.z⟩
 clear S;intro ac w β S
 refine S.bs 1 .nil (((b6 (el (aC h m).1.U g.toNat))==3)||((b6 (el (aC h m).1.U g.toNat))==4)) (fun ac w β sl S=>?_) (fun ac w β sl S=>?_)
 ·have z0:=G1 sl
  refine S.go 9 .nil fun ac w β S=>?_
  refine dj ?_
  let k5:bw:=⟨[(1,.v (R m)),(2,.v (R g)),(3,.p 0 0),(6,.p 1 0),(11,.p 4 0),(13,.v (R (ch (el (aC h m).1.U g.toNat)))),(14,.v (B ((b6 (el (aC h m).1.U g.toNat))==4)))],[GT.cells h aK,c2 ad,[ab h.mem.length ae.mem.1,ab h.I.length ae.I.1,ab h.buf.length ae.buf.1,ab h.ar.length ae.ar.1],GT.cells (aC h m).1 e0,GT.cells (el (aC h m).1.U g.toNat) (e0.U.2 g.toNat)]⟩
  obtain⟨ba,a_,bg,S,a1,a6,aW,aT,cN⟩:∃ba a_ bg,aj Tryz.prog Tryz.f29.ntmps w0 aa ba a_ bg k5 ac w/\ai w0 aa ba a_ de h.mem ae.mem/\ai w0 aa ba a_ eE h.I ae.I/\ai w0 aa ba a_ dy h.buf ae.buf/\ai w0 aa ba a_ e3 h.ar ae.ar/\ai w0 aa ba a_ c5 (aC h m).1 e0:=⟨_,_,_,S.z,a1,a6,aW,aT,cN⟩
  obtain⟨bq,rk⟩:∃z,z=bk h m g (a7 (ch (el (aC h m).1.U g.toNat))) (gB ((b6 (el (aC h m).1.U g.toNat))==4)) false:=⟨_,rfl⟩
  have afU:=S_ (congrArg Prod.fst rk) (DL (by assumption) (by assumption) (by assumption))
  try dsimp only at afU
  obtain⟨bq,rk⟩:∃z,z=bk h m g (a7 (ch (el (aC h m).1.U g.toNat))) (gB ((b6 (el (aC h m).1.U g.toNat))==4)) false:=⟨_,rfl⟩
  have afW:=S_ (congrArg Prod.fst rk) (DL (by assumption) (by assumption) (by assumption))
  try dsimp only at afW
  refine lT (fun ac w=>∃ib e2 im fE iq fF fD fK u N β,aj Tryz.prog Tryz.f29.ntmps w0 aa u N β (k5.dl [3] [(15,.p 5 0),(16,.v (R bq.2.1)),(17,.v (B bq.2.2))] 6 [(5,[ab bq.1.mem.length iq.1,ab bq.1.I.length fD.1,ab bq.1.buf.length ib.1,ab bq.1.ar.length im.1])]) ac w/\ai w0 aa u N de h.mem ae.mem/\ai w0 aa u N eE h.I ae.I/\ai w0 aa u N dy h.buf ae.buf/\ai w0 aa u N e3 h.ar ae.ar/\ai w0 aa u N c5 (aC h m).1 e0/\ai w0 aa u N e2 bq.1.buf ib/\ai w0 aa u N fE bq.1.ar im/\ai w0 aa u N fF bq.1.mem iq/\ai w0 aa u N fK bq.1.I fD/\J de e2/\J de fE/\J de fF/\J de fK/\J eE e2/\J eE fE/\J eE fF/\J eE fK/\J dy e2/\J dy fE/\J dy fF/\J dy fK/\J e3 e2/\J e3 fE/\J e3 fF/\J e3 fK/\J c5 e2/\J c5 fE/\J c5 fF/\J c5 fK/\J e2 fE/\J e2 fF/\J e2 fK/\J fE fF/\J fE fK/\J fF fK/\aq bq.2.1) ?_ ?_
  ·refine S.df (f:=16) 13 (by kernel_rfl) (by kernel_rfl) fun w S=>?_
   refine S.hm 11 [0,1,2,3,5] [] [(69,.v (GT.val h aK)),(70,.v (R m)),(71,.v (R g)),(72,.v (R (ch (el (aC h m).1.U g.toNat)))),(74,.v (B ((b6 (el (aC h m).1.U g.toNat))==4)))] .nil fun ac S=>?_
   refine ao.mh fun W aO=>?_
   refine ao.l0 (l':=cc 16 [0,1,2,3,5]) (by kernel_rfl) ?_
   have ao2 ac w ib e2 im fE iq fF fD fK u N β (S:aj Tryz.prog Tryz.f29.ntmps w0 aa u N β (k5.dl [3] [(15,.p 5 0),(16,.v (R bq.2.1)),(17,.v (B bq.2.2))] 6 [(5,[ab bq.1.mem.length iq.1,ab bq.1.I.length fD.1,ab bq.1.buf.length ib.1,ab bq.1.ar.length im.1])]) ac w) (a1:ai w0 aa u N de h.mem ae.mem) (a6:ai w0 aa u N eE h.I ae.I) (aW:ai w0 aa u N dy h.buf ae.buf) (aT:ai w0 aa u N e3 h.ar ae.ar) (cN:ai w0 aa u N c5 (aC h m).1 e0) (hL:ai w0 aa u N e2 bq.1.buf ib) (gE:ai w0 aa u N fE bq.1.ar im) (jB:ai w0 aa u N fF bq.1.mem iq) (ht:ai w0 aa u N fK bq.1.I fD) (d140:J de e2) (d141:J de fE) (d142:J de fF) (d143:J de fK) (d144:J eE e2) (d145:J eE fE) (d146:J eE fF) (d147:J eE fK) (d148:J dy e2) (d149:J dy fE) (d150:J dy fF) (d151:J dy fK) (d152:J e3 e2) (d153:J e3 fE) (d154:J e3 fF) (d155:J e3 fK) (d156:J c5 e2) (d157:J c5 fE) (d158:J c5 fF) (d159:J c5 fK) (d160:J e2 fE) (d161:J e2 fF) (d162:J e2 fK) (d163:J fE fF) (d164:J fE fK) (d165:J fF fK) (i108:aq bq.2.1):W 0 (cc 16 [0,1,2,3,4,5,6,7,8,9,10,11,12,13,14,15]) ac w:=by
    exact mi aO ⟨rfl,ib,e2,im,fE,iq,fF,fD,fK,_,_,_,S.z,a1,a6,aW,aT,cN,hL,gE,jB,ht,d140,d141,d142,d143,d144,d145,d146,d147,d148,d149,d150,d151,d152,d153,d154,d155,d156,d157,d158,d159,d160,d161,d162,d163,d164,d165,i108⟩
   have adg ac w ib e2 im fE iq fF fD fK u N β (S:aj Tryz.prog Tryz.f29.ntmps w0 aa u N β (k5.dl [3] [(15,.p 5 0),(77,.v (GT.val bq.1 (⟨iq,fD,ib,im⟩:cK))),(78,.v (R bq.2.1)),(79,.v (B bq.2.2))] 6 [(5,c2 ad)]) ac w) (a1:ai w0 aa u N de h.mem ae.mem) (a6:ai w0 aa u N eE h.I ae.I) (aW:ai w0 aa u N dy h.buf ae.buf) (aT:ai w0 aa u N e3 h.ar ae.ar) (cN:ai w0 aa u N c5 (aC h m).1 e0) (hL:ai w0 aa u N e2 bq.1.buf ib) (gE:ai w0 aa u N fE bq.1.ar im) (jB:ai w0 aa u N fF bq.1.mem iq) (ht:ai w0 aa u N fK bq.1.I fD) (d167:J de e2) (d168:J de fE) (d169:J de fF) (d170:J de fK) (d171:J eE e2) (d172:J eE fE) (d173:J eE fF) (d174:J eE fK) (d175:J dy e2) (d176:J dy fE) (d177:J dy fF) (d178:J dy fK) (d179:J e3 e2) (d180:J e3 fE) (d181:J e3 fF) (d182:J e3 fK) (d183:J c5 e2) (d184:J c5 fE) (d185:J c5 fF) (d186:J c5 fK) (d187:J e2 fE) (d188:J e2 fF) (d189:J e2 fK) (d190:J fE fF) (d191:J fE fK) (d192:J fF fK) (i108:aq bq.2.1) (an:cZ a_ ba N u) (aL:cr k5.ay.length bg β):W 3 (cc 16 [0,1,2,3,4,5,6,7,8,9,10,11,12]) ac w:=by
    exact S.hQ aO an aL (k5.dl [3] [(15,.p 5 0),(16,.v (R bq.2.1)),(17,.v (B bq.2.2))] 6 [(5,[ab bq.1.mem.length iq.1,ab bq.1.I.length fD.1,ab bq.1.buf.length ib.1,ab bq.1.ar.length im.1])]) 1 .nil fun _ _ _ S=>⟨rfl,ib,e2,im,fE,iq,fF,fD,fK,_,_,_,S,a1,a6,aW,aT,cN,hL,gE,jB,ht,d167,d168,d169,d170,d171,d172,d173,d174,d175,d176,d177,d178,d179,d180,d181,d182,d183,d184,d185,d186,d187,d188,d189,d190,d191,d192,i108⟩
   have adk ac w ib e2 im fE iq fF fD fK u N β (S:aj Tryz.prog Tryz.f29.ntmps w0 aa u N β (k5.dl [3] [(77,.v (GT.val bq.1 (⟨iq,fD,ib,im⟩:cK))),(78,.v (R bq.2.1)),(79,.v (B bq.2.2))] 5 []) ac w) (a1:ai w0 aa u N de h.mem ae.mem) (a6:ai w0 aa u N eE h.I ae.I) (aW:ai w0 aa u N dy h.buf ae.buf) (aT:ai w0 aa u N e3 h.ar ae.ar) (cN:ai w0 aa u N c5 (aC h m).1 e0) (hL:ai w0 aa u N e2 bq.1.buf ib) (gE:ai w0 aa u N fE bq.1.ar im) (jB:ai w0 aa u N fF bq.1.mem iq) (ht:ai w0 aa u N fK bq.1.I fD) (d194:J de e2) (d195:J de fE) (d196:J de fF) (d197:J de fK) (d198:J eE e2) (d199:J eE fE) (d200:J eE fF) (d201:J eE fK) (d202:J dy e2) (d203:J dy fE) (d204:J dy fF) (d205:J dy fK) (d206:J e3 e2) (d207:J e3 fE) (d208:J e3 fF) (d209:J e3 fK) (d210:J c5 e2) (d211:J c5 fE) (d212:J c5 fF) (d213:J c5 fK) (d214:J e2 fE) (d215:J e2 fF) (d216:J e2 fK) (d217:J fE fF) (d218:J fE fK) (d219:J fF fK) (i108:aq bq.2.1) (an:cZ a_ ba N u) (aL:cr k5.ay.length bg β):W 4 (cc 16 [0,1,2,3,4,5,6,7,8,9,10,11]) ac w:=by
    exact S.hQ aO an aL (k5.dl [3] [(15,.p 5 0),(16,.v (R bq.2.1)),(17,.v (B bq.2.2))] 6 [(5,[ab bq.1.mem.length iq.1,ab bq.1.I.length fD.1,ab bq.1.buf.length ib.1,ab bq.1.ar.length im.1])]) 1 .nil fun _ _ _ S=>⟨rfl,ib,e2,im,fE,iq,fF,fD,fK,_,_,_,S,a1,a6,aW,aT,cN,hL,gE,jB,ht,d194,d195,d196,d197,d198,d199,d200,d201,d202,d203,d204,d205,d206,d207,d208,d209,d210,d211,d212,d213,d214,d215,d216,d217,d218,d219,i108⟩
   have P5 ac w u N β (S:aj Tryz.prog Tryz.f29.ntmps w0 aa u N β (k5.dl [3] [(15,.p 5 0),(69,.v (GT.val h aK)),(70,.v (R m)),(71,.v (R g)),(73,.v (R (a7 (ch (el (aC h m).1.U g.toNat))))),(75,.v (R (gB ((b6 (el (aC h m).1.U g.toNat))==4))))] 6 [(5,c2 ad)]) ac w) (a1:ai w0 aa u N de h.mem ae.mem) (a6:ai w0 aa u N eE h.I ae.I) (aW:ai w0 aa u N dy h.buf ae.buf) (aT:ai w0 aa u N e3 h.ar ae.ar) (cN:ai w0 aa u N c5 (aC h m).1 e0) (an:cZ a_ ba N u) (aL:cr k5.ay.length bg β):W 8 (cc 16 [0,1,2,3,4,5,6,12]) ac w:=by
    refine eJ aO 7 ?_
    refine id (S.call3 (r:=bq.1) (r':=bq.2.1) (r'':=bq.2.2) (d:=76) (by rw [rk];exact N_ w h aK (S.rd (S.arg ax)) m g (a7 (ch (el (aC h m).1.U g.toNat))) (qS (m3 (ag.el (bn.U (d:=(aC h m).1) cN.al) g.toNat (by omega)))) (gB ((b6 (el (aC h m).1.U g.toNat))==4))) (by kernel_rfl) rfl fun ac w N EK amt S up aht d225 i226=>?_)
    have QV:=fun b h=>(⟨(up b (an b h).1).1,(up b (an b h).1).2.trans (an b h).2⟩:_/\_)
    refine ao.dA S QV aL fun bx=>?_
    have tt:=J.w d225 a1.sub
    have xh:=J.w d225 a6.sub
    have l3:=J.w d225 aW.sub
    have tu:=J.w d225 aT.sub
    have pW:=J.w d225 cN.sub
    replace a1:=a1.up up
    replace a6:=a6.up up
    replace aW:=aW.up up
    replace aT:=aT.up up
    replace cN:=cN.up up
    clear up d225
    obtain⟨VE,Fz,VH,VI,ahv,K7,ahw,ahx,Bu,Bv,Bw,Bx,Zz,vn,xj,pX,CC,Gv⟩:=n5 aht
    exact S.dp aO [8,9,10,11] bx fun _ S=>adg _ _ EK.buf VH EK.ar VI EK.mem VE EK.I Fz _ _ _ S a1 a6 aW aT cN ahw ahx ahv K7 (J.symm (J.part (J.symm tt) Bw)) (J.symm (J.part (J.symm tt) Bx)) (J.symm (J.part (J.symm tt) Bu)) (J.symm (J.part (J.symm tt) Bv)) (J.symm (J.part (J.symm xh) Bw)) (J.symm (J.part (J.symm xh) Bx)) (J.symm (J.part (J.symm xh) Bu)) (J.symm (J.part (J.symm xh) Bv)) (J.symm (J.part (J.symm l3) Bw)) (J.symm (J.part (J.symm l3) Bx)) (J.symm (J.part (J.symm l3) Bu)) (J.symm (J.part (J.symm l3) Bv)) (J.symm (J.part (J.symm tu) Bw)) (J.symm (J.part (J.symm tu) Bx)) (J.symm (J.part (J.symm tu) Bu)) (J.symm (J.part (J.symm tu) Bv)) (J.symm (J.part (J.symm pW) Bw)) (J.symm (J.part (J.symm pW) Bx)) (J.symm (J.part (J.symm pW) Bu)) (J.symm (J.part (J.symm pW) Bv)) Gv (J.symm vn) (J.symm pX) (J.symm xj) (J.symm CC) Zz i226 QV aL
   have ado ac w u N β (S:aj Tryz.prog Tryz.f29.ntmps w0 aa u N β (k5.dl [3] [(69,.v (GT.val h aK)),(70,.v (R m)),(71,.v (R g)),(73,.v (R (a7 (ch (el (aC h m).1.U g.toNat))))),(75,.v (R (gB ((b6 (el (aC h m).1.U g.toNat))==4))))] 5 []) ac w) (a1:ai w0 aa u N de h.mem ae.mem) (a6:ai w0 aa u N eE h.I ae.I) (aW:ai w0 aa u N dy h.buf ae.buf) (aT:ai w0 aa u N e3 h.ar ae.ar) (cN:ai w0 aa u N c5 (aC h m).1 e0) (an:cZ a_ ba N u) (aL:cr k5.ay.length bg β):W 9 (cc 16 [0,1,2,3,4,5,6]) ac w:=by
    refine jC aO 7 12 ?_ (S.fv aO an aL [] .nil fun _ _ _ S bU=>P5 _ _ _ _ _ S a1 a6 aW aT cN an bU)
    refine id (S.call3 (r:=bq.1) (r':=bq.2.1) (r'':=bq.2.2) (d:=76) (by rw [rk];exact N_ w h aK (S.rd (S.arg ax)) m g (a7 (ch (el (aC h m).1.U g.toNat))) (qS (m3 (ag.el (bn.U (d:=(aC h m).1) cN.al) g.toNat (by omega)))) (gB ((b6 (el (aC h m).1.U g.toNat))==4))) (by kernel_rfl) rfl fun ac w N yJ VL S up yy l4 afm=>?_)
    have QY:=fun b h=>(⟨(up b (an b h).1).1,(up b (an b h).1).2.trans (an b h).2⟩:_/\_)
    refine ao.dA S QY aL fun bx=>?_
    have xm:=J.w l4 a1.sub
    have xn:=J.w l4 a6.sub
    have xo:=J.w l4 aW.sub
    have pY:=J.w l4 aT.sub
    have xp:=J.w l4 cN.sub
    replace a1:=a1.up up
    replace a6:=a6.up up
    replace aW:=aW.up up
    replace aT:=aT.up up
    replace cN:=cN.up up
    clear up l4
    obtain⟨VN,VO,M_,VR,ahE,ahF,Es,ahJ,By,Bz,BA,BB,zF,zG,zH,CF,ZG,ZH⟩:=n5 yy
    exact S.dp aO [8,9,10,11] bx fun _ S=>adk _ _ yJ.buf M_ yJ.ar VR yJ.mem VN yJ.I VO _ _ _ S a1 a6 aW aT cN Es ahJ ahE ahF (J.symm (J.part (J.symm xm) BA)) (J.symm (J.part (J.symm xm) BB)) (J.symm (J.part (J.symm xm) By)) (J.symm (J.part (J.symm xm) Bz)) (J.symm (J.part (J.symm xn) BA)) (J.symm (J.part (J.symm xn) BB)) (J.symm (J.part (J.symm xn) By)) (J.symm (J.part (J.symm xn) Bz)) (J.symm (J.part (J.symm xo) BA)) (J.symm (J.part (J.symm xo) BB)) (J.symm (J.part (J.symm xo) By)) (J.symm (J.part (J.symm xo) Bz)) (J.symm (J.part (J.symm pY) BA)) (J.symm (J.part (J.symm pY) BB)) (J.symm (J.part (J.symm pY) By)) (J.symm (J.part (J.symm pY) Bz)) (J.symm (J.part (J.symm xp) BA)) (J.symm (J.part (J.symm xp) BB)) (J.symm (J.part (J.symm xp) By)) (J.symm (J.part (J.symm xp) Bz)) ZH (J.symm zG) (J.symm CF) (J.symm zH) (J.symm ZG) zF afm QY aL
   have P8 ac w u N β (S:aj Tryz.prog Tryz.f29.ntmps w0 aa u N β (k5.dl [3] [(15,.p 5 0),(69,.v (GT.val h aK)),(70,.v (R m)),(71,.v (R g)),(73,.v (R (a7 (ch (el (aC h m).1.U g.toNat))))),(74,.v (B ((b6 (el (aC h m).1.U g.toNat))==4)))] 6 [(5,c2 ad)]) ac w) (a1:ai w0 aa u N de h.mem ae.mem) (a6:ai w0 aa u N eE h.I ae.I) (aW:ai w0 aa u N dy h.buf ae.buf) (aT:ai w0 aa u N e3 h.ar ae.ar) (cN:ai w0 aa u N c5 (aC h m).1 e0) (an:cZ a_ ba N u) (aL:cr k5.ay.length bg β):W 9 (cc 16 [0,1,2,3,4,5,12]) ac w:=by
    exact eJ aO 6 (S.fv aO an aL [] (.cons (aY fun w hw=>Ga w ((b6 (el (aC h m).1.U g.toNat))==4)) .nil) fun _ _ _ S bU=>P5 _ _ _ _ _ S a1 a6 aW aT cN an bU)
   have adr ac w u N β (S:aj Tryz.prog Tryz.f29.ntmps w0 aa u N β (k5.dl [3] [(69,.v (GT.val h aK)),(70,.v (R m)),(71,.v (R g)),(73,.v (R (a7 (ch (el (aC h m).1.U g.toNat))))),(74,.v (B ((b6 (el (aC h m).1.U g.toNat))==4)))] 5 []) ac w) (a1:ai w0 aa u N de h.mem ae.mem) (a6:ai w0 aa u N eE h.I ae.I) (aW:ai w0 aa u N dy h.buf ae.buf) (aT:ai w0 aa u N e3 h.ar ae.ar) (cN:ai w0 aa u N c5 (aC h m).1 e0) (an:cZ a_ ba N u) (aL:cr k5.ay.length bg β):W 10 (cc 16 [0,1,2,3,4,5]) ac w:=by
    exact jC aO 6 12 (S.fv aO an aL [] (.cons (aY fun w hw=>Ga w ((b6 (el (aC h m).1.U g.toNat))==4)) .nil) fun _ _ _ S bU=>ado _ _ _ _ _ S a1 a6 aW aT cN an bU) (S.fv aO an aL [] .nil fun _ _ _ S bU=>P8 _ _ _ _ _ S a1 a6 aW aT cN an bU)
   have ads ac w u N β (S:aj Tryz.prog Tryz.f29.ntmps w0 aa u N β (k5.dl [3] [(15,.p 5 0),(69,.v (GT.val h aK)),(70,.v (R m)),(71,.v (R g)),(72,.v (R (ch (el (aC h m).1.U g.toNat)))),(74,.v (B ((b6 (el (aC h m).1.U g.toNat))==4)))] 6 [(5,c2 ad)]) ac w) (a1:ai w0 aa u N de h.mem ae.mem) (a6:ai w0 aa u N eE h.I ae.I) (aW:ai w0 aa u N dy h.buf ae.buf) (aT:ai w0 aa u N e3 h.ar ae.ar) (cN:ai w0 aa u N c5 (aC h m).1 e0) (an:cZ a_ ba N u) (aL:cr k5.ay.length bg β):W 10 (cc 16 [0,1,2,3,5,12]) ac w:=by
    exact eJ aO 4 (S.fv aO an aL [] (.cons (aY fun w hw=>r2 w (ch (el (aC h m).1.U g.toNat)) (m3 (ag.el (bn.U (d:=(aC h m).1) cN.al) g.toNat (by omega)))) .nil) fun _ _ _ S bU=>P8 _ _ _ _ _ S a1 a6 aW aT cN an bU)
   have an:cZ a_ ba a_ ba:=fun b h=>⟨h,rfl⟩
   have aL:cr k5.ay.length bg bg:=fun _ _=>rfl
   exact jC aO 4 12 (S.fv aO an aL [] (.cons (aY fun w hw=>r2 w (ch (el (aC h m).1.U g.toNat)) (m3 (ag.el (bn.U (d:=(aC h m).1) cN.al) g.toNat (by omega)))) .nil) fun _ _ _ S bU=>adr _ _ _ _ _ S a1 a6 aW aT cN an bU) (S.fv aO an aL [] .nil fun _ _ _ S bU=>ads _ _ _ _ _ S a1 a6 aW aT cN an bU)
  clear S a1 a6 aW aT cN
  rintro ac w ⟨ib,e2,im,fE,iq,fF,fD,fK,u,N,β,S,a1,a6,aW,aT,cN,hL,gE,jB,ht,CG,OJ,anI,tw,xt,CH,anJ,Gy,anK,xu,anL,Gz,CI,OK,anM,vo,anN,anO,anP,zJ,GA,OL,pZ,OM,r6,xv,i108⟩
  refine S.ex fun S=>?_
  refine S.bs 10 .nil (!bq.2.2) (fun ac w β HF S=>?_) (fun ac w β HF S=>?_)
  ·have aoX:=cw HF
   refine S.go 1 .nil fun ac w β S=>?_
   refine dj ?_
   refine S.df (f:=7) 6 (by kernel_rfl) (by kernel_rfl) fun w S=>?_
   refine S.hm 4 [0,1,3] [] [(91,.v (GT.val (el (aC h m).1.U g.toNat) (e0.U.2 g.toNat))),(92,.v (R (ch (el (aC h m).1.U g.toNat)))),(94,.v (B ((b6 (el (aC h m).1.U g.toNat))==4)))] .nil fun ac S=>?_
   refine S.jk 2 [] [(93,.v (R (a7 (ch (el (aC h m).1.U g.toNat)))))] 6 [] (.cons (aY fun w hw=>r2 w (ch (el (aC h m).1.U g.toNat)) (m3 (ag.el (bn.U (d:=(aC h m).1) cN.al) g.toNat (by omega)))) .nil) fun ac w β S=>?_
   refine S.jk 4 [] [(95,.v (GT.val (kB (a7 (ch (el (aC h m).1.U g.toNat))) ((b6 (el (aC h m).1.U g.toNat))==4)) ()))] 6 [] (.cons (aY fun w hw=>N2 w (a7 (ch (el (aC h m).1.U g.toNat))) (qS (m3 (ag.el (bn.U (d:=(aC h m).1) cN.al) g.toNat (by omega)))) ((b6 (el (aC h m).1.U g.toNat))==4)) .nil) fun ac w β S=>?_
   refine ao.one (i:=5) (by kernel_rfl) ?_
   refine id (S.cH 96 (vh w (el (aC h m).1.U g.toNat) (e0.U.2 g.toNat) (S.rd (ag.el (bn.U (d:=(aC h m).1) cN.al) g.toNat (by omega))) (kB (a7 (ch (el (aC h m).1.U g.toNat))) ((b6 (el (aC h m).1.U g.toNat))==4)) (Po (qS (m3 (ag.el (bn.U (d:=(aC h m).1) cN.al) g.toNat (by omega)))) ((b6 (el (aC h m).1.U g.toNat))==4))) fun ac w N EM VW S up ahU vp=>?_)
   refine ao.next S up (by kernel_rfl) ?_
   have GB:=J.w vp jB.sub
   have CL:=J.w vp ht.sub
   have ZM:=J.w vp hL.sub
   have GC:=J.w vp gE.sub
   replace a1:=a1.up up
   replace a6:=a6.up up
   replace aW:=aW.up up
   replace aT:=aT.up up
   replace cN:=cN.up up
   replace jB:=jB.up up
   replace ht:=ht.up up
   replace hL:=hL.up up
   replace gE:=gE.up up
   clear up vp
   refine S.b8 6 [] [] 6 [(4,GT.cells ({(el (aC h m).1.U g.toNat) with exit:=(kB (a7 (ch (el (aC h m).1.U g.toNat))) ((b6 (el (aC h m).1.U g.toNat))==4))}:az) EM)] .nil fun ac w β S=>?_
   refine ao.done (by kernel_rfl) ?_ _
   refine S.ex fun S=>?_
   refine S.go 3 .nil fun ac w β S=>?_
   refine dj ?_
   refine S.df (f:=10) 9 (by kernel_rfl) (by kernel_rfl) fun w S=>?_
   refine S.hm 1 [0,1,2,3,4,5,6,7,8] [] [(117,.v (GT.val ({(el (aC h m).1.U g.toNat) with exit:=(kB (a7 (ch (el (aC h m).1.U g.toNat))) ((b6 (el (aC h m).1.U g.toNat))==4))}:az) EM)),(118,.v (aM (fD.2 m.toNat).U.1.b ((fD.2 m.toNat).U.1.off+g.toNat*15)))] (.cons (cP ht.al m Tryz.underlying34) (.cons (dG ht.al 68 m.toNat 3 (ab (el bq.1.I m.toNat).U.length (fD.2 m.toNat).U.1)) (.cons (cP (bn.U (d:=(el bq.1.I m.toNat)) (ag.el ht.al m.toNat (by omega))) g Tryz.underlying68) .nil))) fun ac S=>?_
   refine ao.one (i:=9) (by kernel_rfl) ?_
   obtain⟨amI,Et,pL,W3⟩:=xL ht (k:=m.toNat) (show m.toNat<bq.1.I.length by omega)
   have aqZ:=ag.le Et.al
   have agO:=Et.sub
   refine id (S.n4 (α:=az) Et (t:=102) (k:=g.toNat) (off:=(fD.2 m.toNat).U.1.off+g.toNat*15) ahU (J.symm (J.symm (J.part CL pL))) fun w N amJ arS S up TB CN akL Tm=>?_)
   refine ao.last (by kernel_rfl) ?_
   have ZQ:=CN _ (J.symm (J.part (J.symm xv) pL)) GB jB.sub
   have ZR:=CN _ (J.symm (J.part (J.symm pZ) pL)) ZM hL.sub
   have xw:=CN _ (J.symm (J.part (J.symm r6) pL)) GC gE.sub
   replace a1:=a1.bp (J.symm (J.part (J.symm tw) pL)) up
   replace a6:=a6.bp (J.symm (J.part (J.symm Gy) pL)) up
   replace aW:=aW.bp (J.symm (J.part (J.symm Gz) pL)) up
   replace aT:=aT.bp (J.symm (J.part (J.symm vo) pL)) up
   replace cN:=cN.bp (J.symm (J.part (J.symm zJ) pL)) up
   replace jB:=jB.bp (J.symm (J.part (J.symm xv) pL)) up
   replace hL:=hL.bp (J.symm (J.part (J.symm pZ) pL)) up
   replace gE:=gE.bp (J.symm (J.part (J.symm r6) pL)) up
   clear CN Et
   obtain⟨TS,ahZ,anC⟩:=W3 _ _ _ _ _ VW up TB akL CL (by show [ab _ _]=[ab _ _];rw [List.length_set]) (fun b h=>Tm b (agO b h))
   clear up TB Tm
   have aq0:(bq.1.I.set m.toNat ({el bq.1.I m.toNat with U:=((el bq.1.I m.toNat).U.set g.toNat ({(el (aC h m).1.U g.toNat) with exit:=(kB (a7 (ch (el (aC h m).1.U g.toNat))) ((b6 (el (aC h m).1.U g.toNat))==4))}:az))})).length=bq.1.I.length:=List.length_set
   replace S:=S.z (σ':=⟨[(6,.p 1 0),(15,.p 5 0),(117,.v (GT.val ({(el (aC h m).1.U g.toNat) with exit:=(kB (a7 (ch (el (aC h m).1.U g.toNat))) ((b6 (el (aC h m).1.U g.toNat))==4))}:az) EM)),(118,.v (aM (fD.2 m.toNat).U.1.b ((fD.2 m.toNat).U.1.off+g.toNat*15)))],[GT.cells h aK,c2 ad,[ab h.mem.length ae.mem.1,ab h.I.length ae.I.1,ab h.buf.length ae.buf.1,ab h.ar.length ae.ar.1],GT.cells (aC h m).1 e0,GT.cells ({(el (aC h m).1.U g.toNat) with exit:=(kB (a7 (ch (el (aC h m).1.U g.toNat))) ((b6 (el (aC h m).1.U g.toNat))==4))}:az) EM,[ab bq.1.mem.length iq.1,ab (bq.1.I.set m.toNat ({el bq.1.I m.toNat with U:=((el bq.1.I m.toNat).U.set g.toNat ({(el (aC h m).1.U g.toNat) with exit:=(kB (a7 (ch (el (aC h m).1.U g.toNat))) ((b6 (el (aC h m).1.U g.toNat))==4))}:az))})).length fD.1,ab bq.1.buf.length ib.1,ab bq.1.ar.length im.1]]⟩) (by rw [show(bq.1.I.set m.toNat ({el bq.1.I m.toNat with U:=((el bq.1.I m.toNat).U.set g.toNat ({(el (aC h m).1.U g.toNat) with exit:=(kB (a7 (ch (el (aC h m).1.U g.toNat))) ((b6 (el (aC h m).1.U g.toNat))==4))}:az))})).length=bq.1.I.length by omega]<;>kernel_rfl)
   refine ao.done (by kernel_rfl) ?_ _
   refine S.ex fun S=>?_
   refine S.aP 9 .nil [GT.val (⟨bq.1.mem,(bq.1.I.set m.toNat ({el bq.1.I m.toNat with U:=((el bq.1.I m.toNat).U.set g.toNat ({(el (aC h m).1.U g.toNat) with exit:=(kB (a7 (ch (el (aC h m).1.U g.toNat))) ((b6 (el (aC h m).1.U g.toNat))==4))}:az))})),bq.1.buf,bq.1.ar⟩:ad) (⟨iq,(fD.1,TS),ib,im⟩:cK),B true] fun ac w β S=>?_
   have ah0:=hz (x:=(⟨bq.1.mem,(bq.1.I.set m.toNat ({el bq.1.I m.toNat with U:=((el bq.1.I m.toNat).U.set g.toNat ({(el (aC h m).1.U g.toNat) with exit:=(kB (a7 (ch (el (aC h m).1.U g.toNat))) ((b6 (el (aC h m).1.U g.toNat))==4))}:az))})),bq.1.buf,bq.1.ar⟩:ad)) (p:=(⟨iq,(fD.1,TS),ib,im⟩:cK)) jB ahZ hL gE (J.symm (J.or (J.symm xv) (J.symm ZQ))) (J.symm OL) (J.symm OM) (J.symm (J.symm (J.or (J.symm pZ) (J.symm ZR)))) (J.symm (J.symm (J.or (J.symm r6) (J.symm xw)))) GA
   exact cB (p':=()) S JX J_ rfl rfl ah0 trivial
  have aoY:=cl HF
  refine S.a8 7 .nil ((b6 (el (aC h m).1.U g.toNat))==4) (fun ac w β acL abI S=>?_) (fun ac w β acL abI S=>?_)
  ·refine S.go 2 .nil fun ac w β S=>?_
   refine dj ?_
   refine S.df (f:=10) 9 (by kernel_rfl) (by kernel_rfl) fun w S=>?_
   refine S.hm 4 [0,1,2,3,5,6] [] [(100,.v (ab bq.1.mem.length iq.1)),(101,.v (R bq.2.1)),(102,.v (R (ch (el (aC h m).1.U g.toNat)))),(105,.v (R (el (aC h m).1.U g.toNat).acc))] .nil fun ac S=>?_
   refine S.jk 4 [] [(103,.v (R (dK (ch (el (aC h m).1.U g.toNat)))))] 6 [] (.cons (aY fun w hw=>xd w (ch (el (aC h m).1.U g.toNat)) (m3 (ag.el (bn.U (d:=(aC h m).1) cN.al) g.toNat (by omega)))) .nil) fun ac w β S=>?_
   refine ao.one (i:=7) (by kernel_rfl) ?_
   refine id (S.cH 106 (zt w bq.1.mem iq (S.rd jB.al) bq.2.1 (dK (ch (el (aC h m).1.U g.toNat))) (el (aC h m).1.U g.toNat).acc (a5.acc (d:=(el (aC h m).1.U g.toNat)) (ag.el (bn.U (d:=(aC h m).1) cN.al) g.toNat (by omega)))) fun ac w N EN amK S up wj xx=>?_)
   refine ao.next S up (by kernel_rfl) ?_
   have zK:=J.w xx ht.sub
   have ZV:=J.w xx hL.sub
   have ZW:=J.w xx gE.sub
   replace a1:=a1.up up
   replace a6:=a6.up up
   replace aW:=aW.up up
   replace aT:=aT.up up
   replace cN:=cN.up up
   replace jB:=jB.up up
   replace ht:=ht.up up
   replace hL:=hL.up up
   replace gE:=gE.up up
   clear up xx
   refine S.aI 8 [8] [] [(107,.p 5 0)] .nil fun ac S=>?_
   refine S.b8 9 [] [] 6 [(5,[ab (gm bq.1.mem bq.2.1 (dK (ch (el (aC h m).1.U g.toNat))) (el (aC h m).1.U g.toNat).acc).length EN.1,ab bq.1.I.length fD.1,ab bq.1.buf.length ib.1,ab bq.1.ar.length im.1])] .nil fun ac w β S=>?_
   refine ao.done (by kernel_rfl) ?_ _
   refine S.ex fun S=>?_
   refine S.go 3 .nil fun ac w β S=>S.ct (r:=cj (el (aC h m).1.U g.toNat)) (d:=109) (Oe w (el (aC h m).1.U g.toNat) (e0.U.2 g.toNat) (S.rd (ag.el (bn.U (d:=(aC h m).1) cN.al) g.toNat (by omega)))) fun ac w N LN V4 S up ah4 vq=>?_
   have xy:=J.w vq ht.sub
   have ZX:=J.w vq hL.sub
   have GH:=J.w vq gE.sub
   have GI:=J.w vq wj.sub
   replace a1:=a1.up up
   replace a6:=a6.up up
   replace aW:=aW.up up
   replace aT:=aT.up up
   replace cN:=cN.up up
   replace ht:=ht.up up
   replace hL:=hL.up up
   replace gE:=gE.up up
   replace wj:=wj.up up
   clear up vq
   refine S.go 5 .nil fun ac w β S=>?_
   refine dj ?_
   refine S.df (f:=10) 9 (by kernel_rfl) (by kernel_rfl) fun w S=>?_
   refine S.hm 1 [0,1,2,3,4,5,6,7,8] [] [(117,.v (GT.val (cj (el (aC h m).1.U g.toNat)) LN)),(118,.v (aM (fD.2 m.toNat).U.1.b ((fD.2 m.toNat).U.1.off+g.toNat*15)))] (.cons (cP ht.al m Tryz.underlying34) (.cons (dG ht.al 68 m.toNat 3 (ab (el bq.1.I m.toNat).U.length (fD.2 m.toNat).U.1)) (.cons (cP (bn.U (d:=(el bq.1.I m.toNat)) (ag.el ht.al m.toNat (by omega))) g Tryz.underlying68) .nil))) fun ac S=>?_
   refine ao.one (i:=9) (by kernel_rfl) ?_
   obtain⟨amL,Eu,pM,W4⟩:=xL ht (k:=m.toNat) (show m.toNat<bq.1.I.length by omega)
   have aq2:=ag.le Eu.al
   have agQ:=Eu.sub
   refine id (S.n4 (α:=az) Eu (t:=102) (k:=g.toNat) (off:=(fD.2 m.toNat).U.1.off+g.toNat*15) ah4 (J.symm (J.symm (J.part xy pM))) fun w N amM arT S up TC CP akO To=>?_)
   refine ao.last (by kernel_rfl) ?_
   have CQ:=CP _ (J.symm (J.part (J.symm pZ) pM)) ZX hL.sub
   have Z0:=CP _ (J.symm (J.part (J.symm r6) pM)) GH gE.sub
   have GK:=CP _ (J.symm (J.part zK pM)) GI wj.sub
   replace a1:=a1.bp (J.symm (J.part (J.symm tw) pM)) up
   replace a6:=a6.bp (J.symm (J.part (J.symm Gy) pM)) up
   replace aW:=aW.bp (J.symm (J.part (J.symm Gz) pM)) up
   replace aT:=aT.bp (J.symm (J.part (J.symm vo) pM)) up
   replace cN:=cN.bp (J.symm (J.part (J.symm zJ) pM)) up
   replace hL:=hL.bp (J.symm (J.part (J.symm pZ) pM)) up
   replace gE:=gE.bp (J.symm (J.part (J.symm r6) pM)) up
   replace wj:=wj.bp (J.symm (J.part zK pM)) up
   clear CP Eu
   obtain⟨TT,ah9,anD⟩:=W4 _ _ _ _ _ V4 up TC akO xy (by show [ab _ _]=[ab _ _];rw [List.length_set]) (fun b h=>To b (agQ b h))
   clear up TC To
   have aq4:(bq.1.I.set m.toNat ({el bq.1.I m.toNat with U:=((el bq.1.I m.toNat).U.set g.toNat (cj (el (aC h m).1.U g.toNat)))})).length=bq.1.I.length:=List.length_set
   replace S:=S.z (σ':=⟨[(6,.p 1 0),(15,.p 5 0),(117,.v (GT.val (cj (el (aC h m).1.U g.toNat)) LN)),(118,.v (aM (fD.2 m.toNat).U.1.b ((fD.2 m.toNat).U.1.off+g.toNat*15)))],[GT.cells h aK,c2 ad,[ab h.mem.length ae.mem.1,ab h.I.length ae.I.1,ab h.buf.length ae.buf.1,ab h.ar.length ae.ar.1],GT.cells (aC h m).1 e0,GT.cells (cj (el (aC h m).1.U g.toNat)) LN,[ab (gm bq.1.mem bq.2.1 (dK (ch (el (aC h m).1.U g.toNat))) (el (aC h m).1.U g.toNat).acc).length EN.1,ab (bq.1.I.set m.toNat ({el bq.1.I m.toNat with U:=((el bq.1.I m.toNat).U.set g.toNat (cj (el (aC h m).1.U g.toNat)))})).length fD.1,ab bq.1.buf.length ib.1,ab bq.1.ar.length im.1]]⟩) (by rw [show(bq.1.I.set m.toNat ({el bq.1.I m.toNat with U:=((el bq.1.I m.toNat).U.set g.toNat (cj (el (aC h m).1.U g.toNat)))})).length=bq.1.I.length by omega]<;>kernel_rfl)
   refine ao.done (by kernel_rfl) ?_ _
   refine S.ex fun S=>?_
   refine S.aP 9 .nil [GT.val (⟨(gm bq.1.mem bq.2.1 (dK (ch (el (aC h m).1.U g.toNat))) (el (aC h m).1.U g.toNat).acc),(bq.1.I.set m.toNat ({el bq.1.I m.toNat with U:=((el bq.1.I m.toNat).U.set g.toNat (cj (el (aC h m).1.U g.toNat)))})),bq.1.buf,bq.1.ar⟩:ad) (⟨EN,(fD.1,TT),ib,im⟩:cK),B true] fun ac w β S=>?_
   have aia:=hz (x:=(⟨(gm bq.1.mem bq.2.1 (dK (ch (el (aC h m).1.U g.toNat))) (el (aC h m).1.U g.toNat).acc),(bq.1.I.set m.toNat ({el bq.1.I m.toNat with U:=((el bq.1.I m.toNat).U.set g.toNat (cj (el (aC h m).1.U g.toNat)))})),bq.1.buf,bq.1.ar⟩:ad)) (p:=(⟨EN,(fD.1,TT),ib,im⟩:cK)) wj ah9 hL gE (J.symm (J.or zK (J.symm GK))) (J.symm ZV) (J.symm ZW) (J.symm (J.symm (J.or (J.symm pZ) (J.symm CQ)))) (J.symm (J.symm (J.or (J.symm r6) (J.symm Z0)))) GA
   exact cB (p':=()) S JX J_ rfl rfl aia trivial
  refine S.go 1 .nil fun ac w β S=>?_
  refine dj ?_
  refine S.df (f:=9) 8 (by kernel_rfl) (by kernel_rfl) fun w S=>?_
  refine S.hm 4 [0,1,2,3,4] [] [(80,.v (GT.val (el (aC h m).1.U g.toNat) (e0.U.2 g.toNat))),(82,.v (ab bq.1.mem.length iq.1)),(83,.v (R bq.2.1)),(84,.v (R (ch (el (aC h m).1.U g.toNat))))] .nil fun ac S=>?_
  refine S.jk 5 [] [(85,.v (R (dK (ch (el (aC h m).1.U g.toNat)))))] 6 [] (.cons (aY fun w hw=>xd w (ch (el (aC h m).1.U g.toNat)) (m3 (ag.el (bn.U (d:=(aC h m).1) cN.al) g.toNat (by omega)))) .nil) fun ac w β S=>?_
  refine S.jk 6 [] [(86,.v (R (gZ bq.1.mem bq.2.1 (dK (ch (el (aC h m).1.U g.toNat))))))] 6 [] (.cons (aY fun w hw=>F6 w bq.1.mem iq (cQ jB.al hw) bq.2.1 (dK (ch (el (aC h m).1.U g.toNat)))) .nil) fun ac w β S=>?_
  refine ao.one (i:=7) (by kernel_rfl) ?_
  refine id (S.cH 87 (N9 w (el (aC h m).1.U g.toNat) (e0.U.2 g.toNat) (S.rd (ag.el (bn.U (d:=(aC h m).1) cN.al) g.toNat (by omega))) (gZ bq.1.mem bq.2.1 (dK (ch (el (aC h m).1.U g.toNat)))) (Gm jB.al bq.2.1 (dK (ch (el (aC h m).1.U g.toNat))))) fun ac w N EO V_ S up aib zL=>?_)
  refine ao.next S up (by kernel_rfl) ?_
  have Z5:=J.w zL jB.sub
  have OR:=J.w zL ht.sub
  have zM:=J.w zL hL.sub
  have Z6:=J.w zL gE.sub
  replace a1:=a1.up up
  replace a6:=a6.up up
  replace aW:=aW.up up
  replace aT:=aT.up up
  replace jB:=jB.up up
  replace ht:=ht.up up
  replace hL:=hL.up up
  replace gE:=gE.up up
  clear up zL
  refine S.b8 8 [] [] 6 [(4,GT.cells (k0 (el (aC h m).1.U g.toNat) (gZ bq.1.mem bq.2.1 (dK (ch (el (aC h m).1.U g.toNat))))) EO)] .nil fun ac w β S=>?_
  refine ao.done (by kernel_rfl) ?_ _
  refine S.ex fun S=>?_
  refine S.go 3 .nil fun ac w β S=>?_
  refine dj ?_
  refine S.df (f:=10) 9 (by kernel_rfl) (by kernel_rfl) fun w S=>?_
  refine S.hm 1 [0,1,2,3,4,5,6,7,8] [] [(117,.v (GT.val (k0 (el (aC h m).1.U g.toNat) (gZ bq.1.mem bq.2.1 (dK (ch (el (aC h m).1.U g.toNat))))) EO)),(118,.v (aM (fD.2 m.toNat).U.1.b ((fD.2 m.toNat).U.1.off+g.toNat*15)))] (.cons (cP ht.al m Tryz.underlying34) (.cons (dG ht.al 68 m.toNat 3 (ab (el bq.1.I m.toNat).U.length (fD.2 m.toNat).U.1)) (.cons (cP (bn.U (d:=(el bq.1.I m.toNat)) (ag.el ht.al m.toNat (by omega))) g Tryz.underlying68) .nil))) fun ac S=>?_
  refine ao.one (i:=9) (by kernel_rfl) ?_
  obtain⟨amO,Ev,qx,W5⟩:=xL ht (k:=m.toNat) (show m.toNat<bq.1.I.length by omega)
  have aq5:=ag.le Ev.al
  have agR:=Ev.sub
  refine id (S.n4 (α:=az) Ev (t:=102) (k:=g.toNat) (off:=(fD.2 m.toNat).U.1.off+g.toNat*15) aib (J.symm (J.symm (J.part OR qx))) fun w N amP Ug S up TD CR akQ Tp=>?_)
  refine ao.last (by kernel_rfl) ?_
  have Z_:=CR _ (J.symm (J.part (J.symm xv) qx)) Z5 jB.sub
  have CS:=CR _ (J.symm (J.part (J.symm pZ) qx)) zM hL.sub
  have aaa:=CR _ (J.symm (J.part (J.symm r6) qx)) Z6 gE.sub
  replace a1:=a1.bp (J.symm (J.part (J.symm tw) qx)) up
  replace a6:=a6.bp (J.symm (J.part (J.symm Gy) qx)) up
  replace aW:=aW.bp (J.symm (J.part (J.symm Gz) qx)) up
  replace aT:=aT.bp (J.symm (J.part (J.symm vo) qx)) up
  replace jB:=jB.bp (J.symm (J.part (J.symm xv) qx)) up
  replace hL:=hL.bp (J.symm (J.part (J.symm pZ) qx)) up
  replace gE:=gE.bp (J.symm (J.part (J.symm r6) qx)) up
  clear CR Ev
  obtain⟨TU,aii,anE⟩:=W5 _ _ _ _ _ V_ up TD akQ OR (by show [ab _ _]=[ab _ _];rw [List.length_set]) (fun b h=>Tp b (agR b h))
  clear up TD Tp
  have aq6:(bq.1.I.set m.toNat ({el bq.1.I m.toNat with U:=((el bq.1.I m.toNat).U.set g.toNat (k0 (el (aC h m).1.U g.toNat) (gZ bq.1.mem bq.2.1 (dK (ch (el (aC h m).1.U g.toNat))))))})).length=bq.1.I.length:=List.length_set
  replace S:=S.z (σ':=⟨[(6,.p 1 0),(15,.p 5 0),(117,.v (GT.val (k0 (el (aC h m).1.U g.toNat) (gZ bq.1.mem bq.2.1 (dK (ch (el (aC h m).1.U g.toNat))))) EO)),(118,.v (aM (fD.2 m.toNat).U.1.b ((fD.2 m.toNat).U.1.off+g.toNat*15)))],[GT.cells h aK,c2 ad,[ab h.mem.length ae.mem.1,ab h.I.length ae.I.1,ab h.buf.length ae.buf.1,ab h.ar.length ae.ar.1],GT.cells (aC h m).1 e0,GT.cells (k0 (el (aC h m).1.U g.toNat) (gZ bq.1.mem bq.2.1 (dK (ch (el (aC h m).1.U g.toNat))))) EO,[ab bq.1.mem.length iq.1,ab (bq.1.I.set m.toNat ({el bq.1.I m.toNat with U:=((el bq.1.I m.toNat).U.set g.toNat (k0 (el (aC h m).1.U g.toNat) (gZ bq.1.mem bq.2.1 (dK (ch (el (aC h m).1.U g.toNat))))))})).length fD.1,ab bq.1.buf.length ib.1,ab bq.1.ar.length im.1]]⟩) (by rw [show(bq.1.I.set m.toNat ({el bq.1.I m.toNat with U:=((el bq.1.I m.toNat).U.set g.toNat (k0 (el (aC h m).1.U g.toNat) (gZ bq.1.mem bq.2.1 (dK (ch (el (aC h m).1.U g.toNat))))))})).length=bq.1.I.length by omega]<;>kernel_rfl)
  refine ao.done (by kernel_rfl) ?_ _
  refine S.ex fun S=>?_
  refine S.aP 9 .nil [GT.val (⟨bq.1.mem,(bq.1.I.set m.toNat ({el bq.1.I m.toNat with U:=((el bq.1.I m.toNat).U.set g.toNat (k0 (el (aC h m).1.U g.toNat) (gZ bq.1.mem bq.2.1 (dK (ch (el (aC h m).1.U g.toNat))))))})),bq.1.buf,bq.1.ar⟩:ad) (⟨iq,(fD.1,TU),ib,im⟩:cK),B true] fun ac w β S=>?_
  have aik:=hz (x:=(⟨bq.1.mem,(bq.1.I.set m.toNat ({el bq.1.I m.toNat with U:=((el bq.1.I m.toNat).U.set g.toNat (k0 (el (aC h m).1.U g.toNat) (gZ bq.1.mem bq.2.1 (dK (ch (el (aC h m).1.U g.toNat))))))})),bq.1.buf,bq.1.ar⟩:ad)) (p:=(⟨iq,(fD.1,TU),ib,im⟩:cK)) jB aii hL gE (J.symm (J.or (J.symm xv) (J.symm Z_))) (J.symm OL) (J.symm OM) (J.symm (J.symm (J.or (J.symm pZ) (J.symm CS)))) (J.symm (J.symm (J.or (J.symm r6) (J.symm aaa)))) GA
  exact cB (p':=()) S JX J_ rfl rfl aik trivial
 obtain⟨acN,acO⟩:=oL sl
 have aow:¬((b6 (el (aC h m).1.U g.toNat))=3):=ne_of_beq_false acN
 have aox:¬((b6 (el (aC h m).1.U g.toNat))=4):=ne_of_beq_false acO
 refine S.go 8 .nil fun ac w β S=>?_
 refine S.r4 ⟨[(1,.v (R m)),(2,.v (R g)),(3,.p 0 0),(6,.p 1 0),(8,.p 2 0),(12,.v (R (b6 (el (aC h m).1.U g.toNat)))),(120,.v (B (((b6 (el (aC h m).1.U g.toNat))==5)||((b6 (el (aC h m).1.U g.toNat))==7))))],[GT.cells h aK,c2 ad,[ab h.mem.length ae.mem.1,ab h.I.length ae.I.1,ab h.buf.length ae.buf.1,ab h.ar.length ae.ar.1]]⟩ ?_ ?_
 ·clear S;intro S
  refine S.a8 0 .nil ((b6 (el (aC h m).1.U g.toNat))==5) (fun ac w β HG abJ S=>?_) (fun ac w β HG abJ S=>?_)
  ·exact S.e5 2 .nil fun ac w β S=>⟨rfl,_,by rw [HG];exact S.z⟩
  exact S.e5 5 .nil fun ac w β S=>⟨rfl,_,by rw [HG];exact S.z⟩
 clear S;intro ac w β S
 refine S.bs 1 .nil (((b6 (el (aC h m).1.U g.toNat))==5)||((b6 (el (aC h m).1.U g.toNat))==7)) (fun ac w β HH S=>?_) (fun ac w β HH S=>?_)
 ·have aoy:=G1 HH
  refine S.go 9 (.cons (cP a6.al m Tryz.underlying34) .nil) fun ac w β S=>S.Wr (d:=129) a6 (Yr w h.I ae.I m.toNat (by omega) eE (S.hP a6) (fun b hb=>(S.sep b (a6.sub b hb)).1) g (b6 (el (aC h m).1.U g.toNat)) (by(first|omega|assumption)) (by(first|omega|assumption))) fun ac w N TV Nc S up La vr=>?_
  have aae:=vr _ d17 a1.sub
  have aaf:=vr _ (J.symm d20) aW.sub
  have aag:=vr _ (J.symm d21) aT.sub
  replace a1:=a1.bp d17 up
  replace aW:=aW.bp (J.symm d20) up
  replace aT:=aT.bp (J.symm d21) up
  clear up vr a6
  have aq7:(h.I.set m.toNat (kG (el h.I m.toNat) g (el (el h.I m.toNat).U g.toNat) (b6 (el (aC h m).1.U g.toNat)))).length=h.I.length:=List.length_set
  replace S:=S.z (σ':=⟨[(6,.p 1 0),(8,.p 2 0),(126,.v (aM ae.I.1.b (ae.I.1.off+m.toNat*9))),(127,.v (R g)),(128,.v (R (b6 (el (aC h m).1.U g.toNat))))],[GT.cells h aK,c2 ad,[ab h.mem.length ae.mem.1,ab (h.I.set m.toNat (kG (el h.I m.toNat) g (el (el h.I m.toNat).U g.toNat) (b6 (el (aC h m).1.U g.toNat)))).length ae.I.1,ab h.buf.length ae.buf.1,ab h.ar.length ae.ar.1]]⟩) (by rw [show(h.I.set m.toNat (kG (el h.I m.toNat) g (el (el h.I m.toNat).U g.toNat) (b6 (el (aC h m).1.U g.toNat)))).length=h.I.length by omega]<;>kernel_rfl)
  refine S.is fun S=>?_
  refine S.aP 10 .nil [GT.val (⟨h.mem,(h.I.set m.toNat (kG (el h.I m.toNat) g (el (el h.I m.toNat).U g.toNat) (b6 (el (aC h m).1.U g.toNat)))),h.buf,h.ar⟩:ad) (⟨ae.mem,((ae.I.1,TV):af aZ),ae.buf,ae.ar⟩:cK),B true] fun ac w β S=>?_
  have ain:=hz (x:=(⟨h.mem,(h.I.set m.toNat (kG (el h.I m.toNat) g (el (el h.I m.toNat).U g.toNat) (b6 (el (aC h m).1.U g.toNat)))),h.buf,h.ar⟩:ad)) (p:=(⟨ae.mem,((ae.I.1,TV):af aZ),ae.buf,ae.ar⟩:cK)) a1 La aW aT aae d18 d19 (J.symm aaf) (J.symm aag) d22
  exact cB (p':=()) S yt yu rfl rfl ain trivial
 obtain⟨acP,acQ⟩:=oL HH
 have aoz:¬((b6 (el (aC h m).1.U g.toNat))=5):=ne_of_beq_false acP
 have aoA:¬((b6 (el (aC h m).1.U g.toNat))=7):=ne_of_beq_false acQ
 refine S.go 8 .nil fun ac w β S=>S.ct (r:=aG h m) (d:=134) (Cv w h aK (S.rd (S.arg ax)) m) fun ac w N Uh amR S up TE aai=>?_
 replace a1:=a1.up up
 replace a6:=a6.up up
 replace aW:=aW.up up
 replace aT:=aT.up up
 clear up aai
 have afn:aq (aG h m).av:=b_.av (d:=(aG h m)) TE.al
 obtain⟨Nd,amS,amT,Lb,aiq,air,_,_,_,_,_,_⟩:=wH TE
 refine S.go 1 .nil fun ac w β S=>S.fk (r:=(ig (aG h m) g).1) (r':=(ig (aG h m) g).2) (d:=136) (Xy w (aG h m) Uh (S.rd (show GT.rd bz _ _ (aG h m) Uh from⟨Lb.al,aiq.al,air.al,afn⟩)) g) fun ac w N yL arU amU amV S up ais arx zN aam xz=>?_
 have vs:=J.w zN a1.sub
 have CT:=J.w zN a6.sub
 have GS:=J.w zN aW.sub
 have GU:=J.w zN aT.sub
 replace a1:=a1.up up
 replace a6:=a6.up up
 replace aW:=aW.up up
 replace aT:=aT.up up
 clear up zN
 clear aam
 obtain⟨amY,amZ,am0,ary,Ld,arz,_,BF,_,_,_,_⟩:=wH ais
 refine S.go 17 (.cons (cP a6.al m Tryz.underlying34) .nil) fun ac w β S=>S.WJ (α:=aZ) a6 (t:=68) (k:=m.toNat) (j:=3) (off:=ae.I.1.off+m.toNat*9+3) (v:=ab (ig (aG h m) g).1.U.length yL.U.1) (y:=({el h.I m.toNat with U:=(ig (aG h m) g).1.U}:aZ)) (q:=({ae.I.2 m.toNat with U:=yL.U}:g6)) (fun G ha j6=>⟨_,Ez ha Ld.own (fun b h ah=>(J.symm (J.part (J.symm CT) BF)) b (j6 b h) ah),fun _ h=>h⟩) (J.symm (J.part (J.symm CT) BF)) Ld.sub Ld.cU fun w N am1 Um S up aiw CV ar_ agV=>?_
 have aaw:=CV _ d17 (J.symm (J.part (J.symm vs) BF)) a1.sub
 have aax:=CV _ (J.symm d20) (J.symm (J.part (J.symm GS) BF)) aW.sub
 have aay:=CV _ (J.symm d21) (J.symm (J.part (J.symm GU) BF)) aT.sub
 replace a1:=a1.bp d17 up
 replace aW:=aW.bp (J.symm d20) up
 replace aT:=aT.bp (J.symm d21) up
 clear up CV a6 agV
 have aq8:(h.I.set m.toNat ({el h.I m.toNat with U:=(ig (aG h m) g).1.U})).length=h.I.length:=List.length_set
 replace S:=S.z (σ':=⟨[(6,.p 1 0),(8,.p 2 0),(143,.v (ab (ig (aG h m) g).1.U.length yL.U.1)),(145,.v (aM ae.I.1.b (ae.I.1.off+m.toNat*9+3)))],[GT.cells h aK,c2 ad,[ab h.mem.length ae.mem.1,ab (h.I.set m.toNat ({el h.I m.toNat with U:=(ig (aG h m) g).1.U})).length ae.I.1,ab h.buf.length ae.buf.1,ab h.ar.length ae.ar.1],[ab (ig (aG h m) g).1.mem.length yL.mem.1,ab (ig (aG h m) g).1.U.length yL.U.1,ab (ig (aG h m) g).1.outs.length yL.outs.1,R (ig (aG h m) g).1.av]]⟩) (by rw [show(h.I.set m.toNat ({el h.I m.toNat with U:=(ig (aG h m) g).1.U})).length=h.I.length by omega]<;>kernel_rfl)
 refine S.is fun S=>?_
 refine S.aP 10 .nil [GT.val (⟨h.mem,(h.I.set m.toNat ({el h.I m.toNat with U:=(ig (aG h m) g).1.U})),h.buf,h.ar⟩:ad) (⟨ae.mem,(ae.I.1,Um),ae.buf,ae.ar⟩:cK),B true] fun ac w β S=>?_
 have aix:=hz (x:=(⟨h.mem,(h.I.set m.toNat ({el h.I m.toNat with U:=(ig (aG h m) g).1.U})),h.buf,h.ar⟩:ad)) (p:=(⟨ae.mem,(ae.I.1,Um),ae.buf,ae.ar⟩:cK)) a1 aiw aW aT aaw d18 d19 (J.symm aax) (J.symm aay) d22
 exact cB (p':=()) S yt yu rfl rfl aix trivial
theorem Sz {p:Prop} (h:p:=by clear S;(first|(unfold dF;rw [if_pos (by omega)];done)|(unfold dF;rw [if_pos (by omega)];first|rfl|(simp;done))|(unfold dF;rw [if_neg (by omega)];done)|(unfold dF;rw [if_neg (by omega)];first|rfl|(simp;done)))):p:=h
theorem Oi (w0:World) (fT:List aA) (Lz:af aA) (v3:br w0 fT Lz) (page:Int) (s:aA) (hs:fx s):Calls Tryz.prog 148 [ab fT.length Lz.1,R page,GT.val s ()].toArray w0 (dZ aa w0 (dF fT page s:List aA)):=by
 refine Calls.run aa Tryz.func148 ?_
 intro ac β S
 have apX:fT.length<=4194304:=ag.le v3
 refine S.go 9 .nil fun ac w β S=>S.ct (r:=fT) (d:=9) (zw w fT Lz (S.rd (S.arg v3))) fun ac w N ae aX S up au d4=>?_
 clear up d4
 refine S.bs 12 (.cons (aY fun w hw=>gJ w page (fT.length:Int) (by omega)) .nil) (aS page 0 ((fT.length:Int)-1)) (fun ac w β cf S=>?_) (fun ac w β cf S=>?_)
 ·have gn:=cM cf
  have anY:fx (el fT page.toNat):=(ag.el au.al page.toNat (by omega))
  refine S.go 6 (.cons (cP au.al page Tryz.underlying66) .nil) fun ac w β S=>S.kV (α:=aA) au (t:=77) (k:=page.toNat) (j:=0) (off:=ae.1.off+page.toNat*2) (v:=GT.val s ()) (y:=s) (q:=()) (fun _ _ _=>⟨aa,hs,fun _ h=>False.elim h⟩) fun w N bI dH S up bS d11 ar5 agK=>?_
  clear up d11 au agK
  have Ee:(fT.set page.toNat s).length=fT.length:=List.length_set
  refine S.aP 9 .nil [ab fT.length ae.1] fun ac w β S=>?_
  exact cT S Sz (by rw [show fT.length=(fT.set page.toNat s).length from(by rw [List.length_set])];rfl) bS
 have se:=dC cf
 refine S.aP 10 .nil [ab fT.length ae.1] fun ac w β S=>?_
 exact cT S Sz rfl au
theorem NY (w0:World) (x:az) (cg:dB) (F:aw) (hx:GT.own bz F w0 x cg) (eb:∀b,F b->b<w0.heap.size) (page:Int) (hh:af Int) (dV:br w0 [page] hh) (s:aA) (dR:af aA) (hs:br w0 [s] dR):Calls Tryz.prog 147 [GT.val x cg,aM hh.1.b (hh.1.off+0*1),aM dR.1.b (dR.1.off+0*2)].toArray w0 (rV aa F w0 (({x with written:=dF x.written page s}:az):az)):=by
 refine Calls.run aa Tryz.func147 ?_
 intro ac β S
 have cC:ai w0 F w0 (ga w0.heap.size) F x cg:=⟨hx,eb,fun b hb=> .inr hb⟩
 have i4:aq x.acc:=a5.acc (d:=x) cC.al
 have i5:aq x.aN:=a5.aN (d:=x) cC.al
 have i12:hC x.bH:=a5.bH (d:=x) cC.al
 have i13:aq x.av:=a5.av (d:=x) cC.al
 have i14:iu x.exit:=a5.exit (d:=x) cC.al
 obtain⟨F1,b7,bI,kv,eX,ak,eR,dd,_,_,_,_,_,d19,d20,_,_,d23⟩:=qB cC
 refine S.go 12 (.cons (e8 (S.arg dV) (t:=3) (k:=0) (Nat.succ_pos 0) rfl (by kernel_rfl)) (.cons (hU (S.arg hs) (t:=77) (k:=0) (Nat.succ_pos 0) rfl (by kernel_rfl) (by kernel_rfl)) .nil)) fun ac w β S=>S.ct (r:=dF x.written page s) (d:=9) (Oi w x.written cg.written (S.rd ak.al) page s (show fx s from ag.el (S.arg hs) 0 (Nat.succ_pos 0))) fun ac w N eA c5 S up gg d27=>?_
 replace gg:=gg.u1 (M':=F)
 have d28:=J.w d27 eX.sub
 have d30:=J.w d27 eR.sub
 have d31:=J.w d27 dd.sub
 replace eX:=eX.up up
 replace eR:=eR.up up
 replace dd:=dd.up up
 clear up d27
 refine S.aP 11 .nil [GT.val (⟨x.prog,x.acc,x.aN,(dF x.written page s),x.live,x.bH,x.av,x.exit,x.halted,x.seen⟩:az) (⟨cg.prog,eA,cg.live,cg.seen⟩:dB)] fun ac w β S=>?_
 have eV:=ke (x:=(⟨x.prog,x.acc,x.aN,(dF x.written page s),x.live,x.bH,x.av,x.exit,x.halted,x.seen⟩:az)) (p:=(⟨cg.prog,eA,cg.live,cg.seen⟩:dB)) eX gg eR dd d28 d19 d20 (J.symm d30) (J.symm d31) d23 i4 i5 i12 i13 i14
 exact uV S (show({x with written:=dF x.written page s}:az)=(⟨x.prog,x.acc,x.aN,(dF x.written page s),x.live,x.bH,x.av,x.exit,x.halted,x.seen⟩:az) by clear S;rfl) rfl eV
theorem Xr (w0:World) (x:az) (cg:dB) (F:aw) (hx:GT.own bz F w0 x cg) (eb:∀b,F b->b<w0.heap.size) (page:Int) (hh:af Int) (dV:br w0 [page] hh):Calls Tryz.prog 149 [GT.val x cg,aM hh.1.b (hh.1.off+0*1)].toArray w0 (rV aa F w0 (({x with live:=dF x.live page (dw x.written page)}:az):az)):=by
 refine Calls.run aa Tryz.func149 ?_
 intro ac β S
 have cC:ai w0 F w0 (ga w0.heap.size) F x cg:=⟨hx,eb,fun b hb=> .inr hb⟩
 have i4:aq x.acc:=a5.acc (d:=x) cC.al
 have i5:aq x.aN:=a5.aN (d:=x) cC.al
 have i12:hC x.bH:=a5.bH (d:=x) cC.al
 have i13:aq x.av:=a5.av (d:=x) cC.al
 have i14:iu x.exit:=a5.exit (d:=x) cC.al
 obtain⟨F1,b7,bI,kv,eX,ak,eR,dd,_,_,_,_,d18,_,d20,_,d22,_⟩:=qB cC
 refine S.go 7 .nil fun ac w β S=>?_
 refine dj ?_
 refine S.df (f:=10) 9 (by kernel_rfl) (by kernel_rfl) fun w S=>?_
 refine S.hm 4 [0,1,2,3,4,5] [] [(5,.v (ab x.live.length cg.live.1)),(6,.v (R page)),(8,.v (ab x.written.length cg.written.1)),(9,.v (R page))] (.cons (e8 (S.arg dV) (t:=3) (k:=0) (Nat.succ_pos 0) rfl (by kernel_rfl)) (.cons (e8 (S.arg dV) (t:=3) (k:=0) (Nat.succ_pos 0) rfl (by kernel_rfl)) .nil)) fun ac S=>?_
 refine S.jk 6 [] [(10,.v (GT.val (dw x.written page) ()))] 2 [] (.cons (aY fun w hw=>Cw w x.written cg.written (cQ ak.al hw) page) .nil) fun ac w β S=>?_
 refine ao.one (i:=7) (by kernel_rfl) ?_
 refine id (S.cH 11 (Oi w x.live cg.live (S.rd eR.al) page (dw x.written page) (UT ak.al page)) fun ac w N eA c5 S up gg d27=>?_)
 refine ao.next S up (by kernel_rfl) ?_
 replace gg:=gg.u1 (M':=F)
 have d28:=J.w d27 eX.sub
 have d29:=J.w d27 ak.sub
 have d31:=J.w d27 dd.sub
 replace eX:=eX.up up
 replace ak:=ak.up up
 replace dd:=dd.up up
 clear up d27
 refine S.aI 8 [8] [] [(12,.p 0 4)] .nil fun ac S=>?_
 refine S.b8 9 [] [] 2 [(0,[ab x.prog.length cg.prog.1,R x.acc,R x.aN,ab x.written.length cg.written.1,ab (dF x.live page (dw x.written page)).length eA.1,R x.bH.bQ,R x.bH.post,B x.bH.lL,R x.av,R x.exit.kind,R x.exit.page,B x.exit.wr,R x.exit.n,B x.halted,ab x.seen.length cg.seen.1])] .nil fun ac w β S=>?_
 refine ao.done (by kernel_rfl) ?_ _
 refine S.ex fun S=>?_
 refine S.aP 8 .nil [GT.val (⟨x.prog,x.acc,x.aN,x.written,(dF x.live page (dw x.written page)),x.bH,x.av,x.exit,x.halted,x.seen⟩:az) (⟨cg.prog,cg.written,eA,cg.seen⟩:dB)] fun ac w β S=>?_
 have eV:=ke (x:=(⟨x.prog,x.acc,x.aN,x.written,(dF x.live page (dw x.written page)),x.bH,x.av,x.exit,x.halted,x.seen⟩:az)) (p:=(⟨cg.prog,cg.written,eA,cg.seen⟩:dB)) eX ak gg dd d18 d28 d20 d29 d22 (J.symm d31) i4 i5 i12 i13 i14
 exact uV S (show({x with live:=dF x.live page (dw x.written page)}:az)=(⟨x.prog,x.acc,x.aN,x.written,(dF x.live page (dw x.written page)),x.bH,x.av,x.exit,x.halted,x.seen⟩:az) by clear S;rfl) rfl eV
theorem Sl {p:Prop} (h:p:=by clear S;(unfold eT;first|(rw [if_pos (by assumption)];done)|(rw [if_neg (by assumption)];done))):p:=h
theorem F4 (w0:World) (x:az) (cg:dB) (F:aw) (hx:GT.own bz F w0 x cg) (eb:∀b,F b->b<w0.heap.size) (kind:Int) (wD:af Int) (I7:br w0 [kind] wD) (v:Int) (mW:af Int) (bu:br w0 [v] mW):Calls Tryz.prog 155 [GT.val x cg,aM wD.1.b (wD.1.off+0*1),aM mW.1.b (mW.1.off+0*1)].toArray w0 (rV aa F w0 ((eT kind v x):az)):=by
 refine Calls.run aa Tryz.func155 ?_
 intro ac β S
 have cC:ai w0 F w0 (ga w0.heap.size) F x cg:=⟨hx,eb,fun b hb=> .inr hb⟩
 refine S.a8 13 (.cons (e8 (S.arg I7) (t:=3) (k:=0) (Nat.succ_pos 0) rfl (by kernel_rfl)) .nil) (kind==2) (fun ac w β h1 bM S=>?_) (fun ac w β h1 bM S=>?_)
 ·refine S.go 11 (.cons (e8 (S.arg bu) (t:=3) (k:=0) (Nat.succ_pos 0) rfl (by kernel_rfl)) (.cons (dY (s:=Instr.build 100 [].toArray) (v:= .agg [R 0,R 0,B false,R 0].toArray) (fun w=>by kernel_rfl)) .nil)) fun ac w β S=>S.ct (r:=({(⟨x.prog,v,x.aN,x.written,x.live,x.bH,x.av,x.exit,x.halted,x.seen⟩:az) with exit:=(⟨0,0,false,0⟩:dI)}:az)) (d:=11) (vh w (⟨x.prog,v,x.aN,x.written,x.live,x.bH,x.av,x.exit,x.halted,x.seen⟩:az) (⟨cg.prog,cg.written,cg.live,cg.seen⟩:dB) (S.rd (show GT.rd bz _ _ (⟨x.prog,v,x.aN,x.written,x.live,x.bH,x.av,x.exit,x.halted,x.seen⟩:az) (⟨cg.prog,cg.written,cg.live,cg.seen⟩:dB) from⟨(a5.prog (p:=cg) (d:=x) cC.al),(show aq v from ag.el (S.arg bu) 0 (Nat.succ_pos 0)),(a5.aN (d:=x) cC.al),(a5.written (p:=cg) (d:=x) cC.al),(a5.live (p:=cg) (d:=x) cC.al),(a5.bH (d:=x) cC.al),(a5.av (d:=x) cC.al),(a5.exit (d:=x) cC.al),(a5.seen (p:=cg) (d:=x) cC.al)⟩)) (⟨0,0,false,0⟩:dI) (show iu (⟨0,0,false,0⟩:dI) from⟨(show aq 0 from⟨by decide,by decide⟩),(show aq 0 from⟨by decide,by decide⟩),(show aq 0 from⟨by decide,by decide⟩)⟩)) fun ac w N pF fQ S up cG d6=>?_
  replace cG:=cG.u1 (M':=F)
  replace cC:=cC.up up
  clear up d6
  refine S.ct (r:=cj ({(⟨x.prog,v,x.aN,x.written,x.live,x.bH,x.av,x.exit,x.halted,x.seen⟩:az) with exit:=(⟨0,0,false,0⟩:dI)}:az)) (d:=12) (tp w ({(⟨x.prog,v,x.aN,x.written,x.live,x.bH,x.av,x.exit,x.halted,x.seen⟩:az) with exit:=(⟨0,0,false,0⟩:dI)}:az) pF (S.rd cG.al)) fun ac w N bE bI S up eR d11=>?_
  replace eR:=eR.u1 (M':=F)
  replace cC:=cC.up up
  clear up d11
  refine S.aP 4 .nil [GT.val (cj ({(⟨x.prog,v,x.aN,x.written,x.live,x.bH,x.av,x.exit,x.halted,x.seen⟩:az) with exit:=(⟨0,0,false,0⟩:dI)}:az)) bE] fun ac w β S=>?_
  exact uV S Sl rfl eR
 refine S.go 7 (.cons (dY (s:=Instr.build 100 [].toArray) (v:= .agg [R 0,R 0,B false,R 0].toArray) (fun w=>by kernel_rfl)) .nil) fun ac w β S=>S.ct (r:=({x with exit:=(⟨0,0,false,0⟩:dI)}:az)) (d:=11) (vh w x cg (S.rd cC.al) (⟨0,0,false,0⟩:dI) (show iu (⟨0,0,false,0⟩:dI) from⟨(show aq 0 from⟨by decide,by decide⟩),(show aq 0 from⟨by decide,by decide⟩),(show aq 0 from⟨by decide,by decide⟩)⟩)) fun ac w N lp kv S up dd d17=>?_
 replace dd:=dd.u1 (M':=F)
 replace cC:=cC.up up
 clear up d17
 refine S.ct (r:=cj ({x with exit:=(⟨0,0,false,0⟩:dI)}:az)) (d:=12) (tp w ({x with exit:=(⟨0,0,false,0⟩:dI)}:az) lp (S.rd dd.al)) fun ac w N ie jH S up gS d22=>?_
 replace gS:=gS.u1 (M':=F)
 replace cC:=cC.up up
 clear up d22
 refine S.aP 4 .nil [GT.val (cj ({x with exit:=(⟨0,0,false,0⟩:dI)}:az)) ie] fun ac w β S=>?_
 exact uV S Sl rfl gS
theorem Sm {p:Prop} (h:p:=by clear S;(first|(unfold nd;rw [if_pos (by assumption)];done)|(unfold nd;rw [if_neg (by assumption)];done))):p:=h
theorem NX (w0:World) (x:az) (cg:dB) (F:aw) (hx:GT.own bz F w0 x cg) (eb:∀b,F b->b<w0.heap.size) (kind:Int) (wD:af Int) (I7:br w0 [kind] wD):Calls Tryz.prog 156 [GT.val x cg,aM wD.1.b (wD.1.off+0*1)].toArray w0 (rV aa F w0 ((nd kind x):az)):=by
 refine Calls.run aa Tryz.func156 ?_
 intro ac β S
 have cC:ai w0 F w0 (ga w0.heap.size) F x cg:=⟨hx,eb,fun b hb=> .inr hb⟩
 have i4:aq x.acc:=a5.acc (d:=x) cC.al
 have i5:aq x.aN:=a5.aN (d:=x) cC.al
 have i12:hC x.bH:=a5.bH (d:=x) cC.al
 have i13:aq x.av:=a5.av (d:=x) cC.al
 obtain⟨F1,b7,bI,kv,eX,ak,eR,dd,_,_,_,_,d18,d19,d20,d21,d22,d23⟩:=qB cC
 refine S.a8 20 (.cons (dY (s:=Instr.build 100 [].toArray) (v:= .agg [R 0,R 0,B false,R 0].toArray) (fun w=>by kernel_rfl)) (.cons (e8 (S.arg I7) (t:=3) (k:=0) (Nat.succ_pos 0) rfl (by kernel_rfl)) .nil)) (kind==4) (fun ac w β fR ra S=>?_) (fun ac w β fR ra S=>?_)
 ·refine S.go 4 .nil fun ac w β S=>S.ct (r:=iN (⟨x.prog,x.acc,x.aN,x.written,x.live,x.bH,x.av,(⟨0,0,false,0⟩:dI),x.halted,x.seen⟩:az)) (d:=9) (F_ w (⟨x.prog,x.acc,x.aN,x.written,x.live,x.bH,x.av,(⟨0,0,false,0⟩:dI),x.halted,x.seen⟩:az) (⟨cg.prog,cg.written,cg.live,cg.seen⟩:dB) (S.rd (show GT.rd bz _ _ (⟨x.prog,x.acc,x.aN,x.written,x.live,x.bH,x.av,(⟨0,0,false,0⟩:dI),x.halted,x.seen⟩:az) (⟨cg.prog,cg.written,cg.live,cg.seen⟩:dB) from⟨eX.al,i4,i5,ak.al,eR.al,i12,i13,(show iu (⟨0,0,false,0⟩:dI) from⟨(show aq 0 from⟨by decide,by decide⟩),(show aq 0 from⟨by decide,by decide⟩),(show aq 0 from⟨by decide,by decide⟩)⟩),dd.al⟩))) fun ac w N EL qI S up eo d29=>?_
  replace eo:=eo.u1 (M':=F)
  replace eX:=eX.up up
  replace ak:=ak.up up
  replace eR:=eR.up up
  replace dd:=dd.up up
  clear up d29
  have i37:aq (iN (⟨x.prog,x.acc,x.aN,x.written,x.live,x.bH,x.av,(⟨0,0,false,0⟩:dI),x.halted,x.seen⟩:az)).acc:=a5.acc (d:=(iN (⟨x.prog,x.acc,x.aN,x.written,x.live,x.bH,x.av,(⟨0,0,false,0⟩:dI),x.halted,x.seen⟩:az))) eo.al
  have i38:aq (iN (⟨x.prog,x.acc,x.aN,x.written,x.live,x.bH,x.av,(⟨0,0,false,0⟩:dI),x.halted,x.seen⟩:az)).aN:=a5.aN (d:=(iN (⟨x.prog,x.acc,x.aN,x.written,x.live,x.bH,x.av,(⟨0,0,false,0⟩:dI),x.halted,x.seen⟩:az))) eo.al
  have i45:hC (iN (⟨x.prog,x.acc,x.aN,x.written,x.live,x.bH,x.av,(⟨0,0,false,0⟩:dI),x.halted,x.seen⟩:az)).bH:=a5.bH (d:=(iN (⟨x.prog,x.acc,x.aN,x.written,x.live,x.bH,x.av,(⟨0,0,false,0⟩:dI),x.halted,x.seen⟩:az))) eo.al
  have i46:aq (iN (⟨x.prog,x.acc,x.aN,x.written,x.live,x.bH,x.av,(⟨0,0,false,0⟩:dI),x.halted,x.seen⟩:az)).av:=a5.av (d:=(iN (⟨x.prog,x.acc,x.aN,x.written,x.live,x.bH,x.av,(⟨0,0,false,0⟩:dI),x.halted,x.seen⟩:az))) eo.al
  have i47:iu (iN (⟨x.prog,x.acc,x.aN,x.written,x.live,x.bH,x.av,(⟨0,0,false,0⟩:dI),x.halted,x.seen⟩:az)).exit:=a5.exit (d:=(iN (⟨x.prog,x.acc,x.aN,x.written,x.live,x.bH,x.av,(⟨0,0,false,0⟩:dI),x.halted,x.seen⟩:az))) eo.al
  obtain⟨jb,qK,u6,qL,jy,ln,oH,gh,_,_,_,_,d51,d52,d53,d54,d55,d56⟩:=qB eo
  refine S.aP 4 .nil [GT.val (iN (⟨x.prog,x.acc,x.aN,x.written,x.live,x.bH,x.av,(⟨0,0,false,0⟩:dI),x.halted,x.seen⟩:az)) EL] fun ac w β S=>?_
  have yz:=ke (x:=(iN (⟨x.prog,x.acc,x.aN,x.written,x.live,x.bH,x.av,(⟨0,0,false,0⟩:dI),x.halted,x.seen⟩:az))) (p:=EL) jy ln oH gh d51 d52 d53 d54 d55 d56 i37 i38 i45 i46 i47
  exact uV S Sm rfl yz
 refine S.aP 10 .nil [GT.val (⟨x.prog,x.acc,x.aN,x.written,x.live,x.bH,x.av,(⟨0,0,false,0⟩:dI),x.halted,x.seen⟩:az) (⟨cg.prog,cg.written,cg.live,cg.seen⟩:dB)] fun ac w β S=>?_
 have iF:=ke (x:=(⟨x.prog,x.acc,x.aN,x.written,x.live,x.bH,x.av,(⟨0,0,false,0⟩:dI),x.halted,x.seen⟩:az)) (p:=(⟨cg.prog,cg.written,cg.live,cg.seen⟩:dB)) eX ak eR dd d18 d19 d20 d21 d22 d23 i4 i5 i12 i13 (show iu (⟨0,0,false,0⟩:dI) from⟨(show aq 0 from⟨by decide,by decide⟩),(show aq 0 from⟨by decide,by decide⟩),(show aq 0 from⟨by decide,by decide⟩)⟩)
 exact uV S Sm rfl iF
theorem Xt (w0:World) (x:az) (cg:dB) (F:aw) (hx:GT.own bz F w0 x cg) (eb:∀b,F b->b<w0.heap.size) (p:Int) (cO:af Int) (a2:br w0 [p] cO):Calls Tryz.prog 158 [GT.val x cg,aM cO.1.b (cO.1.off+0*1)].toArray w0 (rV aa F w0 (({x with av:=p}:az):az)):=by
 refine Calls.run aa Tryz.func158 ?_
 intro ac β S
 have cC:ai w0 F w0 (ga w0.heap.size) F x cg:=⟨hx,eb,fun b hb=> .inr hb⟩
 have i4:aq x.acc:=a5.acc (d:=x) cC.al
 have i5:aq x.aN:=a5.aN (d:=x) cC.al
 have i12:hC x.bH:=a5.bH (d:=x) cC.al
 have i14:iu x.exit:=a5.exit (d:=x) cC.al
 obtain⟨F1,b7,bI,kv,eX,ak,eR,dd,_,_,_,_,d18,d19,d20,d21,d22,d23⟩:=qB cC
 refine S.aP 20 (.cons (e8 (S.arg a2) (t:=3) (k:=0) (Nat.succ_pos 0) rfl (by kernel_rfl)) .nil) [GT.val (⟨x.prog,x.acc,x.aN,x.written,x.live,x.bH,p,x.exit,x.halted,x.seen⟩:az) (⟨cg.prog,cg.written,cg.live,cg.seen⟩:dB)] fun ac w β S=>?_
 have c4:=ke (x:=(⟨x.prog,x.acc,x.aN,x.written,x.live,x.bH,p,x.exit,x.halted,x.seen⟩:az)) (p:=(⟨cg.prog,cg.written,cg.live,cg.seen⟩:dB)) eX ak eR dd d18 d19 d20 d21 d22 d23 i4 i5 i12 (show aq p from ag.el (S.arg a2) 0 (Nat.succ_pos 0)) i14
 exact uV S (show({x with av:=p}:az)=(⟨x.prog,x.acc,x.aN,x.written,x.live,x.bH,p,x.exit,x.halted,x.seen⟩:az) by clear S;rfl) rfl c4
theorem Xp (w0:World) (x:az) (cg:dB) (F:aw) (hx:GT.own bz F w0 x cg) (eb:∀b,F b->b<w0.heap.size) (c:eM) (dG:af eM) (hc:br w0 [c] dG):Calls Tryz.prog 160 [GT.val x cg,aM dG.1.b (dG.1.off+0*3)].toArray w0 (rV aa F w0 (({x with bH:=c}:az):az)):=by
 refine Calls.run aa Tryz.func160 ?_
 intro ac β S
 have cC:ai w0 F w0 (ga w0.heap.size) F x cg:=⟨hx,eb,fun b hb=> .inr hb⟩
 have i4:aq x.acc:=a5.acc (d:=x) cC.al
 have i5:aq x.aN:=a5.aN (d:=x) cC.al
 have i13:aq x.av:=a5.av (d:=x) cC.al
 have i14:iu x.exit:=a5.exit (d:=x) cC.al
 obtain⟨F1,b7,bI,kv,eX,ak,eR,dd,_,_,_,_,d18,d19,d20,d21,d22,d23⟩:=qB cC
 refine S.aP 20 (.cons (hU (S.arg hc) (t:=81) (k:=0) (Nat.succ_pos 0) rfl (by kernel_rfl) (by kernel_rfl)) .nil) [GT.val (⟨x.prog,x.acc,x.aN,x.written,x.live,c,x.av,x.exit,x.halted,x.seen⟩:az) (⟨cg.prog,cg.written,cg.live,cg.seen⟩:dB)] fun ac w β S=>?_
 have c4:=ke (x:=(⟨x.prog,x.acc,x.aN,x.written,x.live,c,x.av,x.exit,x.halted,x.seen⟩:az)) (p:=(⟨cg.prog,cg.written,cg.live,cg.seen⟩:dB)) eX ak eR dd d18 d19 d20 d21 d22 d23 i4 i5 (show hC c from ag.el (S.arg hc) 0 (Nat.succ_pos 0)) i13 i14
 exact uV S (show({x with bH:=c}:az)=(⟨x.prog,x.acc,x.aN,x.written,x.live,c,x.av,x.exit,x.halted,x.seen⟩:az) by clear S;rfl) rfl c4
theorem D4 {p:Prop} (h:p:=by clear S;(first|(unfold cd;rw [if_neg (by rintro⟨h1,ah,aE⟩;first|omega|simp_all)];done)|((have aJ:=Dg (by assumption));unfold cd iT;rw [if_pos ⟨by assumption,aJ,by first|assumption|rfl⟩,if_pos aJ,aca aJ];done))):p:=h
theorem Ea {p:Prop} (h:p:=by clear S;(first|(unfold cd;rw [if_neg (by rintro⟨h1,ah,aE⟩;first|omega|simp_all)];done)|((have aJ:=Dg (by assumption));unfold cd;rw [if_pos ⟨by assumption,aJ,by first|assumption|rfl⟩];done))):p:=h
theorem qX (w0:World) (b:a9) (aQ:ec) (hb:br w0 b aQ) (g:Int) (condition:Bool) (tK:Nat) (xg:Array Value) (A:az->az) (xZ:callee Tryz.prog tK=true) (xV:∀{n:Nat} {u:World} {N:aw} {β:Nat->Nat} {σ:bw} {a:Act} {w:World} (S:aj Tryz.prog n w0 aa u N β σ a w) (cg:dB) (F:aw),GT.own bz F w (aR b g).1 cg->(∀b,F b->b<w.heap.size)->Calls Tryz.prog tK (GT.val (aR b g).1 cg::xg.toList).toArray w (rV aa F w (A (aR b g).1:az))):Calls Tryz.prog 145 [GT.val b aQ,R g,B condition,.func (.func tK) #[] xg].toArray w0 (fG aa w0 ((cd b g condition A).1:a9) ((cd b g condition A).2:Bool)):=by
 refine Calls.run aa Tryz.func145 ?_
 intro ac β S
 have iD:b.mem.length<=4194304:=ag.le (b_.mem (d:=b) hb)
 have iW:b.U.length<=4194304:=ag.le (b_.U (d:=b) hb)
 have iX:b.outs.length<=4194304:=ag.le (b_.outs (d:=b) hb)
 refine S.go 11 .nil fun ac w β S=>S.fk (r:=(aR b g).1) (r':=(aR b g).2) (d:=15) (Cq w b aQ (S.rd (S.arg hb)) g) fun ac w N ae eP cR fQ S up cG a1 d7 d8 d9=>?_
 clear up d7
 clear d8
 refine S.bs 15 (.cons (aY fun w hw=>zp w b aQ (cQ (S.arg hb) hw)) .nil) (!(hK b)) (fun ac w β dq S=>?_) (fun ac w β dq S=>?_)
 ·have gp:=cw dq
  refine S.go 13 .nil fun ac w β S=>S.ct (r:=b) (d:=30) (pU w b aQ (S.rd (S.arg hb))) fun ac w N gF fP S up cJ d15=>?_
  clear up d15
  refine S.aP 5 .nil [GT.val b gF,B false] fun ac w β S=>?_
  exact cB (p':=()) S D4 Ea rfl rfl cJ trivial
 have lf:=cl dq
 have o8:=zm lf
 refine S.bs 4 .nil (!(aR b g).2) (fun ac w β h2 S=>?_) (fun ac w β h2 S=>?_)
 ·have mR:=cw h2
  have vz:=PR mR
  refine S.go 9 .nil fun ac w β S=>S.ct (r:=b) (d:=30) (pU w b aQ (S.rd (S.arg hb))) fun ac w N jO hR S up bY d24=>?_
  clear up d24
  refine S.aP 5 .nil [GT.val b jO,B false] fun ac w β S=>?_
  exact cB (p':=()) S D4 Ea rfl rfl bY trivial
 have z5:=cl h2
 have abD:=Dg z5
 refine S.bs 5 .nil (!condition) (fun ac w β nj S=>?_) (fun ac w β nj S=>?_)
 ·have fo:=cw nj
  refine S.go 4 .nil fun ac w β S=>S.ct (r:=b) (d:=30) (pU w b aQ (S.rd (S.arg hb))) fun ac w N jE mw S up fN d32=>?_
  clear up d32
  refine S.aP 5 .nil [GT.val b jE,B false] fun ac w β S=>?_
  exact cB (p':=()) S D4 Ea rfl rfl fN trivial
 have nk:=cl nj
 refine S.go 4 .nil fun ac w β S=>?_
 refine dj ?_
 refine S.df (f:=8) 6 (by kernel_rfl) (by kernel_rfl) fun w S=>?_
 refine S.hm 4 [0,1,2,3] [] [(31,.v (GT.val b aQ)),(32,.v (R g)),(33,.v (.func (.func tK) #[] xg)),(34,.v (GT.val (aR b g).1 ae))] .nil fun ac S=>?_
 refine ao.one (i:=4) (by kernel_rfl) ?_
 refine id (S.Zh (r:=(A (aR b g).1)) (d:=35) cG (xV S ae cR (S.hP cG) (fun b hb=>(S.sep b (cG.sub b hb)).1)) (hcall:=NG xZ) fun ac w N fc kU S up hO d37=>?_)
 refine ao.next S up (by kernel_rfl) ?_
 clear up d37 cG
 refine ao.one (i:=5) (by kernel_rfl) ?_
 refine id (S.cH 36 (qW w b aQ (S.rd (S.arg hb)) g (A (aR b g).1) fc (S.rd hO.al)) fun ac w N n1 qK S up ln d41=>?_)
 refine ao.next S up (by kernel_rfl) ?_
 clear up d41
 refine S.b8 6 [] [] 3 [(1,GT.cells (iT b g (A (aR b g).1)) n1)] .nil fun ac w β S=>?_
 refine S.b8 7 [] [(9,.v (B true))] 3 [] .nil fun ac w β S=>?_
 refine ao.done (by kernel_rfl) ?_ _
 refine S.ex fun S=>?_
 refine S.aP 2 .nil [GT.val (iT b g (A (aR b g).1)) n1,B true] fun ac w β S=>?_
 exact cB (p':=()) S D4 Ea rfl rfl ln trivial
theorem DS {p:Prop} (h:p:=by clear S;(first|(rw [ak5 (by assumption)];done)|(rw [ak6 (by assumption)];done))):p:=h
theorem Xx (w0:World) (b:a9) (aQ:ec) (hb:br w0 b aQ) (g:Int) (page:Int) (dV:aq page) (s:aA) (hs:fx s):Calls Tryz.prog 79 [GT.val b aQ,R g,R page,GT.val s ()].toArray w0 (fG aa w0 ((jd b g page s).1:a9) ((jd b g page s).2:Bool)):=by
 refine Calls.run aa Tryz.func79 ?_
 intro ac β S
 have iD:b.mem.length<=4194304:=ag.le (b_.mem (d:=b) hb)
 have iW:b.U.length<=4194304:=ag.le (b_.U (d:=b) hb)
 have iX:b.outs.length<=4194304:=ag.le (b_.outs (d:=b) hb)
 have rn:=dV.b9;have rm:=dV.hi
 refine S.go 10 .nil fun ac w β S=>?_
 refine S.h5 1 page () dV fun β N bd aX S up au d4=>?_
 clear up d4
 refine S.h5 1 s () hs fun β N a3 b7 S up ak d8=>?_
 replace au:=au.up up
 clear up d8
 refine dj ?_
 rcases Bool.eq_false_or_eq_true (aS page 0 (4-1)) with dq|dq
 ·have fM:=cM dq
  let iI:bw:=⟨[(1,.v (R g)),(4,.p 0 0),(6,.v (aM (aB bd ():af Int).1.b ((aB bd ():af Int).1.off+0*1))),(7,.v (aM (aB a3 ():af aA).1.b ((aB a3 ():af aA).1.off+0*2))),(8,.p 1 0)],[GT.cells b aQ,c2 a9]⟩
  obtain⟨ba,a_,bg,S,au,ak⟩:∃ba a_ bg,aj Tryz.prog Tryz.f79.ntmps w0 aa ba a_ bg iI ac w/\ai w0 aa ba a_ aX ([page]) (aB bd ():af Int)/\ai w0 aa ba a_ b7 ([s]) (aB a3 ():af aA):=⟨_,_,_,S.z,au,ak⟩
  refine lT (fun ac w=>∃gv hS u N β,aj Tryz.prog Tryz.f79.ntmps w0 aa u N β (iI.dl [1,4,6,7] [(9,.v (B (cd b g (fz s 8) (fun x=>({x with written:=dF x.written page s}:az))).2))] 2 [(1,GT.cells (cd b g (fz s 8) (fun x=>({x with written:=dF x.written page s}:az))).1 gv)]) ac w/\ai w0 aa u N hS (cd b g (fz s 8) (fun x=>({x with written:=dF x.written page s}:az))).1 gv) ?_ ?_
  ·refine S.df (f:=14) 12 (by kernel_rfl) (by kernel_rfl) fun w S=>?_
   refine S.hm 10 [0,1,2,8] [] [(10,.v (GT.val b aQ)),(11,.v (R g)),(12,.v (R page)),(18,.v (.func (.func 147) #[] #[aM (aB bd ():af Int).1.b ((aB bd ():af Int).1.off+0*1),aM (aB a3 ():af aA).1.b ((aB a3 ():af aA).1.off+0*2)]))] (.cons (e8 au.al (t:=3) (k:=0) (Nat.succ_pos 0) rfl (by kernel_rfl)) .nil) fun ac S=>?_
   refine ao.mh fun W aO=>?_
   refine ao.l0 (l':=cc 14 [0,1,2,8]) (by kernel_rfl) ?_
   have P9 ac w gv hS u N β (S:aj Tryz.prog Tryz.f79.ntmps w0 aa u N β (iI.dl [1,4,6,7] [(9,.v (B (cd b g (fz s 8) (fun x=>({x with written:=dF x.written page s}:az))).2))] 2 [(1,GT.cells (cd b g (fz s 8) (fun x=>({x with written:=dF x.written page s}:az))).1 gv)]) ac w) (cN:ai w0 aa u N hS (cd b g (fz s 8) (fun x=>({x with written:=dF x.written page s}:az))).1 gv):W 0 (cc 14 [0,1,2,3,4,5,6,7,8,9,10,11,12,13]) ac w:=by
    exact mi aO ⟨rfl,gv,hS,_,_,_,S.z,cN⟩
   have HV ac w gv hS u N β (S:aj Tryz.prog Tryz.f79.ntmps w0 aa u N β (iI.dl [1,4,6,7] [(20,.v (GT.val (cd b g (fz s 8) (fun x=>({x with written:=dF x.written page s}:az))).1 gv)),(21,.v (B (cd b g (fz s 8) (fun x=>({x with written:=dF x.written page s}:az))).2))] 2 []) ac w) (cN:ai w0 aa u N hS (cd b g (fz s 8) (fun x=>({x with written:=dF x.written page s}:az))).1 gv) (an:cZ a_ ba N u) (aL:cr iI.ay.length bg β):W 2 (cc 14 [0,1,2,3,4,5,6,7,8,9,10,11]) ac w:=by
    exact S.hQ aO an aL (iI.dl [1,4,6,7] [(9,.v (B (cd b g (fz s 8) (fun x=>({x with written:=dF x.written page s}:az))).2))] 2 [(1,GT.cells (cd b g (fz s 8) (fun x=>({x with written:=dF x.written page s}:az))).1 gv)]) 1 .nil fun _ _ _ S=>⟨rfl,gv,hS,_,_,_,S,cN⟩
   have vJ ac w u N β (S:aj Tryz.prog Tryz.f79.ntmps w0 aa u N β (iI.dl [1,4,6,7] [(10,.v (GT.val b aQ)),(11,.v (R g)),(17,.v (B (fz s 8))),(18,.v (.func (.func 147) #[] #[aM (aB bd ():af Int).1.b ((aB bd ():af Int).1.off+0*1),aM (aB a3 ():af aA).1.b ((aB a3 ():af aA).1.off+0*2)]))] 2 []) ac w) (au:ai w0 aa u N aX ([page]) (aB bd ():af Int)) (ak:ai w0 aa u N b7 ([s]) (aB a3 ():af aA)) (an:cZ a_ ba N u) (aL:cr iI.ay.length bg β):W 5 (cc 14 [0,1,2,3,4,5,6,7,8]) ac w:=by
    refine eJ aO 9 ?_
    refine id (S.call2 (r:=(cd b g (fz s 8) (fun x=>({x with written:=dF x.written page s}:az))).1) (r':=(cd b g (fz s 8) (fun x=>({x with written:=dF x.written page s}:az))).2) (d:=19) (qX w b aQ (S.rd (S.arg hb)) g (fz s 8) 147 #[aM (aB bd ():af Int).1.b ((aB bd ():af Int).1.off+0*1),aM (aB a3 ():af aA).1.b ((aB a3 ():af aA).1.off+0*2)] (fun x=>({x with written:=dF x.written page s}:az)) rfl (fun bT cg F hx eb=>NY _ (aR b g).1 cg F hx eb page (aB bd ():af Int) (bT.rd (bT.arg (S.rd au.al))) s (aB a3 ():af aA) (bT.rd (bT.arg (S.rd ak.al))))) (by kernel_rfl) rfl fun ac w N jj fc kU k8 S up eO gT d39 d40 d41=>?_)
    have Ak:=fun b h=>(⟨(up b (an b h).1).1,(up b (an b h).1).2.trans (an b h).2⟩:_/\_)
    refine ao.dA S Ak aL fun bx=>?_
    replace au:=au.up up
    replace ak:=ak.up up
    clear up d39
    clear d40
    exact S.dp aO [10,11] bx fun _ S=>HV _ _ jj kU _ _ _ S eO Ak aL
   have HZ ac w u N β (S:aj Tryz.prog Tryz.f79.ntmps w0 aa u N β (iI.dl [1,4,6,7] [(10,.v (GT.val b aQ)),(11,.v (R g)),(14,.v (B true)),(15,.v (GT.val s ())),(18,.v (.func (.func 147) #[] #[aM (aB bd ():af Int).1.b ((aB bd ():af Int).1.off+0*1),aM (aB a3 ():af aA).1.b ((aB a3 ():af aA).1.off+0*2)]))] 2 []) ac w) (au:ai w0 aa u N aX ([page]) (aB bd ():af Int)) (ak:ai w0 aa u N b7 ([s]) (aB a3 ():af aA)) (an:cZ a_ ba N u) (aL:cr iI.ay.length bg β):W 7 (cc 14 [0,1,2,3,4,5,8]) ac w:=by
    exact eJ aO 6 (S.fv aO an aL [7] (.cons (aY fun w hw=>Od w s 8 (by omega) (by omega)) .nil) fun _ _ _ S bU=>vJ _ _ _ _ _ S au ak an bU)
   have vK ac w u N β (S:aj Tryz.prog Tryz.f79.ntmps w0 aa u N β (iI.dl [1,4,6] [(10,.v (GT.val b aQ)),(11,.v (R g)),(14,.v (B true)),(18,.v (.func (.func 147) #[] #[aM (aB bd ():af Int).1.b ((aB bd ():af Int).1.off+0*1),aM (aB a3 ():af aA).1.b ((aB a3 ():af aA).1.off+0*2)]))] 2 []) ac w) (au:ai w0 aa u N aX ([page]) (aB bd ():af Int)) (ak:ai w0 aa u N b7 ([s]) (aB a3 ():af aA)) (an:cZ a_ ba N u) (aL:cr iI.ay.length bg β):W 8 (cc 14 [0,1,2,3,4,8]) ac w:=by
    exact eJ aO 5 (S.fv aO an aL [] (.cons (hU ak.al (t:=77) (k:=0) (Nat.succ_pos 0) rfl (by kernel_rfl) (by kernel_rfl)) .nil) fun _ _ _ S bU=>HZ _ _ _ _ _ S au ak an bU)
   have an:cZ a_ ba a_ ba:=fun b h=>⟨h,rfl⟩
   have aL:cr iI.ay.length bg bg:=fun _ _=>rfl
   exact eJ aO 3 (S.BX aO an aL [4] [(4,true)] (.cons (aY fun w hw=>gJ w page 4 (by omega)) .nil) (.cons dq .nil) fun _ _ _ S bU=>vK _ _ _ _ _ S au ak an bU)
  clear S au ak
  rintro ac w ⟨gv,hS,u,N,β,S,cN⟩
  refine S.ex fun S=>?_
  refine S.aP 2 .nil [GT.val (cd b g (fz s 8) (fun x=>({x with written:=dF x.written page s}:az))).1 gv,B (cd b g (fz s 8) (fun x=>({x with written:=dF x.written page s}:az))).2] fun ac w β S=>?_
  exact cB (p':=()) S DS DS rfl rfl cN trivial
 ·have abN:=dC dq
  let oU:bw:=⟨[(1,.v (R g)),(4,.p 0 0),(6,.v (aM (aB bd ():af Int).1.b ((aB bd ():af Int).1.off+0*1))),(7,.v (aM (aB a3 ():af aA).1.b ((aB a3 ():af aA).1.off+0*2))),(8,.p 1 0)],[GT.cells b aQ,c2 a9]⟩
  obtain⟨ba,a_,bg,S,au,ak⟩:∃ba a_ bg,aj Tryz.prog Tryz.f79.ntmps w0 aa ba a_ bg oU ac w/\ai w0 aa ba a_ aX ([page]) (aB bd ():af Int)/\ai w0 aa ba a_ b7 ([s]) (aB a3 ():af aA):=⟨_,_,_,S.z,au,ak⟩
  refine lT (fun ac w=>∃nE ob u N β,aj Tryz.prog Tryz.f79.ntmps w0 aa u N β (oU.dl [1,4,6,7] [(9,.v (B (cd b g false (fun x=>({x with written:=dF x.written page s}:az))).2))] 2 [(1,GT.cells (cd b g false (fun x=>({x with written:=dF x.written page s}:az))).1 nE)]) ac w/\ai w0 aa u N ob (cd b g false (fun x=>({x with written:=dF x.written page s}:az))).1 nE) ?_ ?_
  ·refine S.df (f:=14) 12 (by kernel_rfl) (by kernel_rfl) fun w S=>?_
   refine S.hm 10 [0,1,2,8] [] [(10,.v (GT.val b aQ)),(11,.v (R g)),(12,.v (R page)),(18,.v (.func (.func 147) #[] #[aM (aB bd ():af Int).1.b ((aB bd ():af Int).1.off+0*1),aM (aB a3 ():af aA).1.b ((aB a3 ():af aA).1.off+0*2)]))] (.cons (e8 au.al (t:=3) (k:=0) (Nat.succ_pos 0) rfl (by kernel_rfl)) .nil) fun ac S=>?_
   refine ao.mh fun W aO=>?_
   refine ao.l0 (l':=cc 14 [0,1,2,8]) (by kernel_rfl) ?_
   have ao7 ac w nE ob u N β (S:aj Tryz.prog Tryz.f79.ntmps w0 aa u N β (oU.dl [1,4,6,7] [(9,.v (B (cd b g false (fun x=>({x with written:=dF x.written page s}:az))).2))] 2 [(1,GT.cells (cd b g false (fun x=>({x with written:=dF x.written page s}:az))).1 nE)]) ac w) (pA:ai w0 aa u N ob (cd b g false (fun x=>({x with written:=dF x.written page s}:az))).1 nE):W 0 (cc 14 [0,1,2,3,4,5,6,7,8,9,10,11,12,13]) ac w:=by
    exact mi aO ⟨rfl,nE,ob,_,_,_,S.z,pA⟩
   have adG ac w nE ob u N β (S:aj Tryz.prog Tryz.f79.ntmps w0 aa u N β (oU.dl [1,4,6,7] [(20,.v (GT.val (cd b g false (fun x=>({x with written:=dF x.written page s}:az))).1 nE)),(21,.v (B (cd b g false (fun x=>({x with written:=dF x.written page s}:az))).2))] 2 []) ac w) (pA:ai w0 aa u N ob (cd b g false (fun x=>({x with written:=dF x.written page s}:az))).1 nE) (an:cZ a_ ba N u) (aL:cr oU.ay.length bg β):W 2 (cc 14 [0,1,2,3,4,5,6,7,8,9,10,11]) ac w:=by
    exact S.hQ aO an aL (oU.dl [1,4,6,7] [(9,.v (B (cd b g false (fun x=>({x with written:=dF x.written page s}:az))).2))] 2 [(1,GT.cells (cd b g false (fun x=>({x with written:=dF x.written page s}:az))).1 nE)]) 1 .nil fun _ _ _ S=>⟨rfl,nE,ob,_,_,_,S,pA⟩
   have H0 ac w u N β (S:aj Tryz.prog Tryz.f79.ntmps w0 aa u N β (oU.dl [1,4,6,7] [(10,.v (GT.val b aQ)),(11,.v (R g)),(17,.v (B false)),(18,.v (.func (.func 147) #[] #[aM (aB bd ():af Int).1.b ((aB bd ():af Int).1.off+0*1),aM (aB a3 ():af aA).1.b ((aB a3 ():af aA).1.off+0*2)]))] 2 []) ac w) (au:ai w0 aa u N aX ([page]) (aB bd ():af Int)) (ak:ai w0 aa u N b7 ([s]) (aB a3 ():af aA)) (an:cZ a_ ba N u) (aL:cr oU.ay.length bg β):W 5 (cc 14 [0,1,2,3,4,5,6,7,8]) ac w:=by
    refine eJ aO 9 ?_
    refine id (S.call2 (r:=(cd b g false (fun x=>({x with written:=dF x.written page s}:az))).1) (r':=(cd b g false (fun x=>({x with written:=dF x.written page s}:az))).2) (d:=19) (qX w b aQ (S.rd (S.arg hb)) g false 147 #[aM (aB bd ():af Int).1.b ((aB bd ():af Int).1.off+0*1),aM (aB a3 ():af aA).1.b ((aB a3 ():af aA).1.off+0*2)] (fun x=>({x with written:=dF x.written page s}:az)) rfl (fun bT cg F hx eb=>NY _ (aR b g).1 cg F hx eb page (aB bd ():af Int) (bT.rd (bT.arg (S.rd au.al))) s (aB a3 ():af aA) (bT.rd (bT.arg (S.rd ak.al))))) (by kernel_rfl) rfl fun ac w N yO arY FE B6 S up Bb oJ d77 d78 d79=>?_)
    have x4:=fun b h=>(⟨(up b (an b h).1).1,(up b (an b h).1).2.trans (an b h).2⟩:_/\_)
    refine ao.dA S x4 aL fun bx=>?_
    replace au:=au.up up
    replace ak:=ak.up up
    clear up d77
    clear d78
    exact S.dp aO [10,11] bx fun _ S=>adG _ _ yO FE _ _ _ S Bb x4 aL
   have adM ac w u N β (S:aj Tryz.prog Tryz.f79.ntmps w0 aa u N β (oU.dl [1,4,6,7] [(10,.v (GT.val b aQ)),(11,.v (R g)),(14,.v (B false)),(15,.v undef),(18,.v (.func (.func 147) #[] #[aM (aB bd ():af Int).1.b ((aB bd ():af Int).1.off+0*1),aM (aB a3 ():af aA).1.b ((aB a3 ():af aA).1.off+0*2)]))] 2 []) ac w) (au:ai w0 aa u N aX ([page]) (aB bd ():af Int)) (ak:ai w0 aa u N b7 ([s]) (aB a3 ():af aA)) (an:cZ a_ ba N u) (aL:cr oU.ay.length bg β):W 7 (cc 14 [0,1,2,3,4,5,8]) ac w:=by
    exact eJ aO 6 (S.fv aO an aL [7] .nil fun _ _ _ S bU=>H0 _ _ _ _ _ S au ak an bU)
   have adN ac w u N β (S:aj Tryz.prog Tryz.f79.ntmps w0 aa u N β (oU.dl [1,4,6] [(10,.v (GT.val b aQ)),(11,.v (R g)),(14,.v (B false)),(18,.v (.func (.func 147) #[] #[aM (aB bd ():af Int).1.b ((aB bd ():af Int).1.off+0*1),aM (aB a3 ():af aA).1.b ((aB a3 ():af aA).1.off+0*2)]))] 2 []) ac w) (au:ai w0 aa u N aX ([page]) (aB bd ():af Int)) (ak:ai w0 aa u N b7 ([s]) (aB a3 ():af aA)) (an:cZ a_ ba N u) (aL:cr oU.ay.length bg β):W 8 (cc 14 [0,1,2,3,4,8]) ac w:=by
    exact eJ aO 5 (S.fv aO an aL [] .nil fun _ _ _ S bU=>adM _ _ _ _ _ S au ak an bU)
   have an:cZ a_ ba a_ ba:=fun b h=>⟨h,rfl⟩
   have aL:cr oU.ay.length bg bg:=fun _ _=>rfl
   exact eJ aO 3 (S.BX aO an aL [4] [(4,false)] (.cons (aY fun w hw=>gJ w page 4 (by omega)) .nil) (.cons dq .nil) fun _ _ _ S bU=>adN _ _ _ _ _ S au ak an bU)
  clear S au ak
  rintro ac w ⟨nE,ob,u,N,β,S,pA⟩
  refine S.ex fun S=>?_
  refine S.aP 2 .nil [GT.val (cd b g false (fun x=>({x with written:=dF x.written page s}:az))).1 nE,B (cd b g false (fun x=>({x with written:=dF x.written page s}:az))).2] fun ac w β S=>?_
  exact cB (p':=()) S DS DS rfl rfl pA trivial
theorem X7 (w0:World) (b:a9) (aQ:ec) (hb:br w0 b aQ) (g:Int) (jP:af Int) (aJ:br w0 [g] jP) (page:Int) (hh:af Int) (dV:br w0 [page] hh) (s:aA) (dR:af aA) (hs:br w0 [s] dR):Calls Tryz.prog 78 [GT.val b aQ,aM jP.1.b (jP.1.off+0*1),aM hh.1.b (hh.1.off+0*1),aM dR.1.b (dR.1.off+0*2)].toArray w0 (fG aa w0 ((jd b g page s).1:a9) ((jd b g page s).2:Bool)):=by
 refine Calls.run aa Tryz.func78 ?_
 intro ac β S
 have iD:b.mem.length<=4194304:=ag.le (b_.mem (d:=b) hb)
 have iW:b.U.length<=4194304:=ag.le (b_.U (d:=b) hb)
 have iX:b.outs.length<=4194304:=ag.le (b_.outs (d:=b) hb)
 refine S.go 13 (.cons (e8 (S.arg aJ) (t:=3) (k:=0) (Nat.succ_pos 0) rfl (by kernel_rfl)) (.cons (e8 (S.arg dV) (t:=3) (k:=0) (Nat.succ_pos 0) rfl (by kernel_rfl)) (.cons (hU (S.arg hs) (t:=77) (k:=0) (Nat.succ_pos 0) rfl (by kernel_rfl) (by kernel_rfl)) .nil))) fun ac w β S=>S.fk (r:=(jd b g page s).1) (r':=(jd b g page s).2) (d:=11) (Xx w b aQ (S.rd (S.arg hb)) g page (show aq page from ag.el (S.arg dV) 0 (Nat.succ_pos 0)) s (show fx s from ag.el (S.arg hs) 0 (Nat.succ_pos 0))) fun ac w N ae eP cR fQ S up cG a1 d7 d8 d9=>?_
 clear up d7
 clear d8
 refine S.aP 7 .nil [GT.val (jd b g page s).1 ae,B (jd b g page s).2] fun ac w β S=>?_
 exact cB (p':=()) S (show(jd b g page s).1=(jd b g page s).1 by clear S;rfl) (show(jd b g page s).2=(jd b g page s).2 by clear S;rfl) rfl rfl cG trivial
theorem Xq (w0:World) (b:a9) (aQ:ec) (hb:br w0 b aQ) (g:Int) (page:Int) (dV:aq page):Calls Tryz.prog 81 [GT.val b aQ,R g,R page].toArray w0 (fG aa w0 ((cV b g page).1:a9) ((cV b g page).2:Bool)):=by
 refine Calls.run aa Tryz.func81 ?_
 intro ac β S
 have iD:b.mem.length<=4194304:=ag.le (b_.mem (d:=b) hb)
 have iW:b.U.length<=4194304:=ag.le (b_.U (d:=b) hb)
 have iX:b.outs.length<=4194304:=ag.le (b_.outs (d:=b) hb)
 have rn:=dV.b9;have rm:=dV.hi
 refine S.go 9 .nil fun ac w β S=>?_
 refine S.h5 1 page () dV fun β N bd aX S up au d4=>?_
 clear up d4
 refine dj ?_
 refine S.df (f:=10) 8 (by kernel_rfl) (by kernel_rfl) fun w S=>?_
 refine S.hm 6 [0,1,2,4] [] [(8,.v (GT.val b aQ)),(9,.v (R g)),(10,.v (R page)),(12,.v (.func (.func 149) #[] #[aM (aB bd ():af Int).1.b ((aB bd ():af Int).1.off+0*1)]))] (.cons (e8 au.al (t:=3) (k:=0) (Nat.succ_pos 0) rfl (by kernel_rfl)) .nil) fun ac S=>?_
 refine S.jk 3 [] [(11,.v (B (aS page 0 (4-1))))] 2 [] (.cons (aY fun w hw=>gJ w page 4 (by omega)) .nil) fun ac w β S=>?_
 refine ao.one (i:=5) (by kernel_rfl) ?_
 refine id (S.call2 (r:=(cd b g (aS page 0 (4-1)) (fun x=>({x with live:=dF x.live page (dw x.written page)}:az))).1) (r':=(cd b g (aS page 0 (4-1)) (fun x=>({x with live:=dF x.live page (dw x.written page)}:az))).2) (d:=13) (qX w b aQ (S.rd (S.arg hb)) g (aS page 0 (4-1)) 149 #[aM (aB bd ():af Int).1.b ((aB bd ():af Int).1.off+0*1)] (fun x=>({x with live:=dF x.live page (dw x.written page)}:az)) rfl (fun bT cg F hx eb=>Xr _ (aR b g).1 cg F hx eb page (aB bd ():af Int) (bT.rd (bT.arg (S.rd au.al))))) (by kernel_rfl) rfl fun ac w N bZ e7 ir eE S up a6 eR d11 d12 d13=>?_)
 refine ao.next S up (by kernel_rfl) ?_
 clear up d11
 clear d12
 refine S.hm 2 [6,7] [] [(14,.v (GT.val (cd b g (aS page 0 (4-1)) (fun x=>({x with live:=dF x.live page (dw x.written page)}:az))).1 bZ)),(15,.v (B (cd b g (aS page 0 (4-1)) (fun x=>({x with live:=dF x.live page (dw x.written page)}:az))).2))] .nil fun ac S=>?_
 refine S.b8 8 [] [] 2 [(1,GT.cells (cd b g (aS page 0 (4-1)) (fun x=>({x with live:=dF x.live page (dw x.written page)}:az))).1 bZ)] .nil fun ac w β S=>?_
 refine S.b8 9 [] [(7,.v (B (cd b g (aS page 0 (4-1)) (fun x=>({x with live:=dF x.live page (dw x.written page)}:az))).2))] 2 [] .nil fun ac w β S=>?_
 refine ao.done (by kernel_rfl) ?_ _
 refine S.ex fun S=>?_
 refine S.aP 2 .nil [GT.val (cd b g (aS page 0 (4-1)) (fun x=>({x with live:=dF x.live page (dw x.written page)}:az))).1 bZ,B (cd b g (aS page 0 (4-1)) (fun x=>({x with live:=dF x.live page (dw x.written page)}:az))).2] fun ac w β S=>?_
 exact cB (p':=()) S (show(cV b g page).1=(cd b g (aS page 0 (4-1)) (fun x=>({x with live:=dF x.live page (dw x.written page)}:az))).1 by clear S;rfl) (show(cV b g page).2=(cd b g (aS page 0 (4-1)) (fun x=>({x with live:=dF x.live page (dw x.written page)}:az))).2 by clear S;rfl) rfl rfl a6 trivial
theorem XV (w0:World) (b:a9) (aQ:ec) (hb:br w0 b aQ) (g:Int) (jP:af Int) (aJ:br w0 [g] jP) (page:Int) (hh:af Int) (dV:br w0 [page] hh):Calls Tryz.prog 80 [GT.val b aQ,aM jP.1.b (jP.1.off+0*1),aM hh.1.b (hh.1.off+0*1)].toArray w0 (fG aa w0 ((cV b g page).1:a9) ((cV b g page).2:Bool)):=by
 refine Calls.run aa Tryz.func80 ?_
 intro ac β S
 have iD:b.mem.length<=4194304:=ag.le (b_.mem (d:=b) hb)
 have iW:b.U.length<=4194304:=ag.le (b_.U (d:=b) hb)
 have iX:b.outs.length<=4194304:=ag.le (b_.outs (d:=b) hb)
 refine S.go 12 (.cons (e8 (S.arg aJ) (t:=3) (k:=0) (Nat.succ_pos 0) rfl (by kernel_rfl)) (.cons (e8 (S.arg dV) (t:=3) (k:=0) (Nat.succ_pos 0) rfl (by kernel_rfl)) .nil)) fun ac w β S=>S.fk (r:=(cV b g page).1) (r':=(cV b g page).2) (d:=9) (Xq w b aQ (S.rd (S.arg hb)) g page (show aq page from ag.el (S.arg dV) 0 (Nat.succ_pos 0))) fun ac w N ae eP cR fQ S up cG a1 d7 d8 d9=>?_
 clear up d7
 clear d8
 refine S.aP 7 .nil [GT.val (cV b g page).1 ae,B (cV b g page).2] fun ac w β S=>?_
 exact cB (p':=()) S (show(cV b g page).1=(cV b g page).1 by clear S;rfl) (show(cV b g page).2=(cV b g page).2 by clear S;rfl) rfl rfl cG trivial
theorem N1 (w0:World) (b:a9) (aQ:ec) (hb:br w0 b aQ) (g:Int):Calls Tryz.prog 154 [GT.val b aQ,R g].toArray w0 (fun e w'=>e= .returned (GT.val (cI b g) ())/\bX aa w0 w'):=by
 refine Calls.run aa Tryz.func154 ?_
 intro ac β S
 have iD:b.mem.length<=4194304:=ag.le (b_.mem (d:=b) hb)
 have iW:b.U.length<=4194304:=ag.le (b_.U (d:=b) hb)
 have iX:b.outs.length<=4194304:=ag.le (b_.outs (d:=b) hb)
 refine S.go 10 .nil fun ac w β S=>S.fk (r:=(aR b g).1) (r':=(aR b g).2) (d:=10) (Cq w b aQ (S.rd (S.arg hb)) g) fun ac w N ae eP cR fQ S up cG a1 d7 d8 d9=>?_
 clear up d7
 clear d8
 exact S.bb 16 .nil [GT.val (aR b g).1.exit ()] (mq (p:=()) (by clear S;rfl))
theorem ym {p:Prop} (h:p:=by clear S;(first|rfl|(unfold jZ;simp [*];done))):p:=h
theorem Xn (w0:World) (b:a9) (aQ:ec) (hb:br w0 b aQ) (g:Int) (v:Int) (bu:aq v):Calls Tryz.prog 86 [GT.val b aQ,R g,R v].toArray w0 (fG aa w0 ((jZ b g v).1:a9) ((jZ b g v).2:Bool)):=by
 refine Calls.run aa Tryz.func86 ?_
 intro ac β S
 have iD:b.mem.length<=4194304:=ag.le (b_.mem (d:=b) hb)
 have iW:b.U.length<=4194304:=ag.le (b_.U (d:=b) hb)
 have iX:b.outs.length<=4194304:=ag.le (b_.outs (d:=b) hb)
 have yc:=bu.b9;have x6:=bu.hi
 refine S.go 19 (.cons (aY fun w hw=>N1 w b aQ (cQ (S.arg hb) hw) g) .nil) fun ac w β S=>?_
 refine S.h5 3 (cI b g).kind () (iu.kind (d:=(cI b g)) (Pl (S.arg hb) g)) fun β N bd aX S up au d4=>?_
 clear up d4
 refine S.h5 1 v () bu fun β N a3 b7 S up ak d8=>?_
 replace au:=au.up up
 clear up d8
 refine dj ?_
 rcases Bool.eq_false_or_eq_true ((cI b g).kind==2) with dq|dq
 ·have fM:(cI b g).kind=2:=eq_of_beq dq
  let iI:bw:=⟨[(1,.v (R g)),(3,.p 0 0),(5,.v (aM (aB a3 ():af Int).1.b ((aB a3 ():af Int).1.off+0*1))),(6,.p 1 0),(8,.v (aM (aB bd ():af Int).1.b ((aB bd ():af Int).1.off+0*1)))],[GT.cells b aQ,c2 a9]⟩
  obtain⟨ba,a_,bg,S,au,ak⟩:∃ba a_ bg,aj Tryz.prog Tryz.f86.ntmps w0 aa ba a_ bg iI ac w/\ai w0 aa ba a_ aX ([(cI b g).kind]) (aB bd ():af Int)/\ai w0 aa ba a_ b7 ([v]) (aB a3 ():af Int):=⟨_,_,_,S.z,au,ak⟩
  refine lT (fun ac w=>∃gv hS u N β,aj Tryz.prog Tryz.f86.ntmps w0 aa u N β (iI.dl [1,3,5,8] [(7,.v (B (cd b g (aS v 0 99) (fun x=>(eT (cI b g).kind v x))).2))] 2 [(1,GT.cells (cd b g (aS v 0 99) (fun x=>(eT (cI b g).kind v x))).1 gv)]) ac w/\ai w0 aa u N hS (cd b g (aS v 0 99) (fun x=>(eT (cI b g).kind v x))).1 gv) ?_ ?_
  ·refine S.df (f:=18) 16 (by kernel_rfl) (by kernel_rfl) fun w S=>?_
   refine S.hm 14 [0,1,2,3] [] [(13,.v (GT.val b aQ)),(14,.v (R g)),(16,.v (B ((cI b g).kind==2)))] (.cons (e8 au.al (t:=3) (k:=0) (Nat.succ_pos 0) rfl (by kernel_rfl)) .nil) fun ac S=>?_
   refine S.aI 12 [12] [] [(25,.v (.func (.func 155) #[] #[aM (aB bd ():af Int).1.b ((aB bd ():af Int).1.off+0*1),aM (aB a3 ():af Int).1.b ((aB a3 ():af Int).1.off+0*1)]))] .nil fun ac S=>?_
   refine ao.mh fun W aO=>?_
   refine ao.l0 (l':=cc 18 [0,1,2,3,12]) (by kernel_rfl) ?_
   have P9 ac w gv hS u N β (S:aj Tryz.prog Tryz.f86.ntmps w0 aa u N β (iI.dl [1,3,5,8] [(7,.v (B (cd b g (aS v 0 99) (fun x=>(eT (cI b g).kind v x))).2))] 2 [(1,GT.cells (cd b g (aS v 0 99) (fun x=>(eT (cI b g).kind v x))).1 gv)]) ac w) (cN:ai w0 aa u N hS (cd b g (aS v 0 99) (fun x=>(eT (cI b g).kind v x))).1 gv):W 0 (cc 18 [0,1,2,3,4,5,6,7,8,9,10,11,12,13,14,15,16,17]) ac w:=by
    exact mi aO ⟨rfl,gv,hS,_,_,_,S.z,cN⟩
   have HV ac w gv hS u N β (S:aj Tryz.prog Tryz.f86.ntmps w0 aa u N β (iI.dl [1,3,5,8] [(27,.v (GT.val (cd b g (aS v 0 99) (fun x=>(eT (cI b g).kind v x))).1 gv)),(28,.v (B (cd b g (aS v 0 99) (fun x=>(eT (cI b g).kind v x))).2))] 2 []) ac w) (cN:ai w0 aa u N hS (cd b g (aS v 0 99) (fun x=>(eT (cI b g).kind v x))).1 gv) (an:cZ a_ ba N u) (aL:cr iI.ay.length bg β):W 2 (cc 18 [0,1,2,3,4,5,6,7,8,9,10,11,12,13,14,15]) ac w:=by
    exact S.hQ aO an aL (iI.dl [1,3,5,8] [(7,.v (B (cd b g (aS v 0 99) (fun x=>(eT (cI b g).kind v x))).2))] 2 [(1,GT.cells (cd b g (aS v 0 99) (fun x=>(eT (cI b g).kind v x))).1 gv)]) 1 .nil fun _ _ _ S=>⟨rfl,gv,hS,_,_,_,S,cN⟩
   have vJ ac w u N β (S:aj Tryz.prog Tryz.f86.ntmps w0 aa u N β (iI.dl [1,3,5,8] [(13,.v (GT.val b aQ)),(14,.v (R g)),(24,.v (B (aS v 0 99))),(25,.v (.func (.func 155) #[] #[aM (aB bd ():af Int).1.b ((aB bd ():af Int).1.off+0*1),aM (aB a3 ():af Int).1.b ((aB a3 ():af Int).1.off+0*1)]))] 2 []) ac w) (au:ai w0 aa u N aX ([(cI b g).kind]) (aB bd ():af Int)) (ak:ai w0 aa u N b7 ([v]) (aB a3 ():af Int)) (an:cZ a_ ba N u) (aL:cr iI.ay.length bg β):W 5 (cc 18 [0,1,2,3,4,5,6,7,8,9,10,11,12]) ac w:=by
    refine eJ aO 13 ?_
    refine id (S.call2 (r:=(cd b g (aS v 0 99) (fun x=>(eT (cI b g).kind v x))).1) (r':=(cd b g (aS v 0 99) (fun x=>(eT (cI b g).kind v x))).2) (d:=26) (qX w b aQ (S.rd (S.arg hb)) g (aS v 0 99) 155 #[aM (aB bd ():af Int).1.b ((aB bd ():af Int).1.off+0*1),aM (aB a3 ():af Int).1.b ((aB a3 ():af Int).1.off+0*1)] (fun x=>(eT (cI b g).kind v x)) rfl (fun bT cg F hx eb=>F4 _ (aR b g).1 cg F hx eb (cI b g).kind (aB bd ():af Int) (bT.rd (bT.arg (S.rd au.al))) v (aB a3 ():af Int) (bT.rd (bT.arg (S.rd ak.al))))) (by kernel_rfl) rfl fun ac w N jj fc kU k8 S up eO gT d39 d40 d41=>?_)
    have Ak:=fun b h=>(⟨(up b (an b h).1).1,(up b (an b h).1).2.trans (an b h).2⟩:_/\_)
    refine ao.dA S Ak aL fun bx=>?_
    replace au:=au.up up
    replace ak:=ak.up up
    clear up d39
    clear d40
    exact S.dp aO [14,15] bx fun _ S=>HV _ _ jj kU _ _ _ S eO Ak aL
   have HZ ac w u N β (S:aj Tryz.prog Tryz.f86.ntmps w0 aa u N β (iI.dl [1,3,5,8] [(13,.v (GT.val b aQ)),(14,.v (R g)),(21,.v (B true)),(22,.v (R v)),(25,.v (.func (.func 155) #[] #[aM (aB bd ():af Int).1.b ((aB bd ():af Int).1.off+0*1),aM (aB a3 ():af Int).1.b ((aB a3 ():af Int).1.off+0*1)]))] 2 []) ac w) (au:ai w0 aa u N aX ([(cI b g).kind]) (aB bd ():af Int)) (ak:ai w0 aa u N b7 ([v]) (aB a3 ():af Int)) (an:cZ a_ ba N u) (aL:cr iI.ay.length bg β):W 7 (cc 18 [0,1,2,3,4,5,6,7,8,9,12]) ac w:=by
    exact eJ aO 10 (S.fv aO an aL [11] (.cons (aY fun w hw=>fU w v 0 99) .nil) fun _ _ _ S bU=>vJ _ _ _ _ _ S au ak an bU)
   have vK ac w u N β (S:aj Tryz.prog Tryz.f86.ntmps w0 aa u N β (iI.dl [1,3,8] [(13,.v (GT.val b aQ)),(14,.v (R g)),(21,.v (B true)),(25,.v (.func (.func 155) #[] #[aM (aB bd ():af Int).1.b ((aB bd ():af Int).1.off+0*1),aM (aB a3 ():af Int).1.b ((aB a3 ():af Int).1.off+0*1)]))] 2 []) ac w) (au:ai w0 aa u N aX ([(cI b g).kind]) (aB bd ():af Int)) (ak:ai w0 aa u N b7 ([v]) (aB a3 ():af Int)) (an:cZ a_ ba N u) (aL:cr iI.ay.length bg β):W 8 (cc 18 [0,1,2,3,4,5,6,7,8,12]) ac w:=by
    exact eJ aO 9 (S.fv aO an aL [] (.cons (e8 ak.al (t:=3) (k:=0) (Nat.succ_pos 0) rfl (by kernel_rfl)) .nil) fun _ _ _ S bU=>HZ _ _ _ _ _ S au ak an bU)
   have adB ac w u N β (S:aj Tryz.prog Tryz.f86.ntmps w0 aa u N β (iI.dl [1,3] [(13,.v (GT.val b aQ)),(14,.v (R g)),(17,.v (B true)),(25,.v (.func (.func 155) #[] #[aM (aB bd ():af Int).1.b ((aB bd ():af Int).1.off+0*1),aM (aB a3 ():af Int).1.b ((aB a3 ():af Int).1.off+0*1)]))] 2 []) ac w) (au:ai w0 aa u N aX ([(cI b g).kind]) (aB bd ():af Int)) (ak:ai w0 aa u N b7 ([v]) (aB a3 ():af Int)) (an:cZ a_ ba N u) (aL:cr iI.ay.length bg β):W 12 (cc 18 [0,1,2,3,4,12]) ac w:=by
    exact eJ aO 5 (S.fv aO an aL [6,7,8] .nil fun _ _ _ S bU=>vK _ _ _ _ _ S au ak an bU)
   rw [aO]
   exact S.Fg aO [4] [(4,true)] (fun _=>S.Bn) (.cons dq .nil) fun _ S=>adB _ _ _ _ _ S au ak (fun _ h=>⟨h,rfl⟩) (fun _ _=>rfl)
  clear S au ak
  rintro ac w ⟨gv,hS,u,N,β,S,cN⟩
  refine S.ex fun S=>?_
  refine S.aP 2 .nil [GT.val (cd b g (aS v 0 99) (fun x=>(eT (cI b g).kind v x))).1 gv,B (cd b g (aS v 0 99) (fun x=>(eT (cI b g).kind v x))).2] fun ac w β S=>?_
  exact cB (p':=()) S ym ym rfl rfl cN trivial
 ·have Df:¬((cI b g).kind=2):=ne_of_beq_false dq
  rcases Bool.eq_false_or_eq_true ((cI b g).kind==3) with sk|sk
  ·have abO:(cI b g).kind=3:=eq_of_beq sk
   let n9:bw:=⟨[(1,.v (R g)),(3,.p 0 0),(5,.v (aM (aB a3 ():af Int).1.b ((aB a3 ():af Int).1.off+0*1))),(6,.p 1 0),(8,.v (aM (aB bd ():af Int).1.b ((aB bd ():af Int).1.off+0*1)))],[GT.cells b aQ,c2 a9]⟩
   obtain⟨ba,a_,bg,S,au,ak⟩:∃ba a_ bg,aj Tryz.prog Tryz.f86.ntmps w0 aa ba a_ bg n9 ac w/\ai w0 aa ba a_ aX ([(cI b g).kind]) (aB bd ():af Int)/\ai w0 aa ba a_ b7 ([v]) (aB a3 ():af Int):=⟨_,_,_,S.z,au,ak⟩
   refine lT (fun ac w=>∃mV m0 u N β,aj Tryz.prog Tryz.f86.ntmps w0 aa u N β (n9.dl [1,3,5,8] [(7,.v (B (cd b g (aS v 0 99) (fun x=>(eT (cI b g).kind v x))).2))] 2 [(1,GT.cells (cd b g (aS v 0 99) (fun x=>(eT (cI b g).kind v x))).1 mV)]) ac w/\ai w0 aa u N m0 (cd b g (aS v 0 99) (fun x=>(eT (cI b g).kind v x))).1 mV) ?_ ?_
   ·refine S.df (f:=18) 16 (by kernel_rfl) (by kernel_rfl) fun w S=>?_
    refine S.hm 14 [0,1,2,3] [] [(13,.v (GT.val b aQ)),(14,.v (R g)),(16,.v (B ((cI b g).kind==2)))] (.cons (e8 au.al (t:=3) (k:=0) (Nat.succ_pos 0) rfl (by kernel_rfl)) .nil) fun ac S=>?_
    refine S.aI 12 [12] [] [(25,.v (.func (.func 155) #[] #[aM (aB bd ():af Int).1.b ((aB bd ():af Int).1.off+0*1),aM (aB a3 ():af Int).1.b ((aB a3 ():af Int).1.off+0*1)]))] .nil fun ac S=>?_
    refine ao.mh fun W aO=>?_
    refine ao.l0 (l':=cc 18 [0,1,2,3,12]) (by kernel_rfl) ?_
    have ao8 ac w mV m0 u N β (S:aj Tryz.prog Tryz.f86.ntmps w0 aa u N β (n9.dl [1,3,5,8] [(7,.v (B (cd b g (aS v 0 99) (fun x=>(eT (cI b g).kind v x))).2))] 2 [(1,GT.cells (cd b g (aS v 0 99) (fun x=>(eT (cI b g).kind v x))).1 mV)]) ac w) (nX:ai w0 aa u N m0 (cd b g (aS v 0 99) (fun x=>(eT (cI b g).kind v x))).1 mV):W 0 (cc 18 [0,1,2,3,4,5,6,7,8,9,10,11,12,13,14,15,16,17]) ac w:=by
     exact mi aO ⟨rfl,mV,m0,_,_,_,S.z,nX⟩
    have adH ac w mV m0 u N β (S:aj Tryz.prog Tryz.f86.ntmps w0 aa u N β (n9.dl [1,3,5,8] [(27,.v (GT.val (cd b g (aS v 0 99) (fun x=>(eT (cI b g).kind v x))).1 mV)),(28,.v (B (cd b g (aS v 0 99) (fun x=>(eT (cI b g).kind v x))).2))] 2 []) ac w) (nX:ai w0 aa u N m0 (cd b g (aS v 0 99) (fun x=>(eT (cI b g).kind v x))).1 mV) (an:cZ a_ ba N u) (aL:cr n9.ay.length bg β):W 2 (cc 18 [0,1,2,3,4,5,6,7,8,9,10,11,12,13,14,15]) ac w:=by
     exact S.hQ aO an aL (n9.dl [1,3,5,8] [(7,.v (B (cd b g (aS v 0 99) (fun x=>(eT (cI b g).kind v x))).2))] 2 [(1,GT.cells (cd b g (aS v 0 99) (fun x=>(eT (cI b g).kind v x))).1 mV)]) 1 .nil fun _ _ _ S=>⟨rfl,mV,m0,_,_,_,S,nX⟩
    have adI ac w u N β (S:aj Tryz.prog Tryz.f86.ntmps w0 aa u N β (n9.dl [1,3,5,8] [(13,.v (GT.val b aQ)),(14,.v (R g)),(24,.v (B (aS v 0 99))),(25,.v (.func (.func 155) #[] #[aM (aB bd ():af Int).1.b ((aB bd ():af Int).1.off+0*1),aM (aB a3 ():af Int).1.b ((aB a3 ():af Int).1.off+0*1)]))] 2 []) ac w) (au:ai w0 aa u N aX ([(cI b g).kind]) (aB bd ():af Int)) (ak:ai w0 aa u N b7 ([v]) (aB a3 ():af Int)) (an:cZ a_ ba N u) (aL:cr n9.ay.length bg β):W 5 (cc 18 [0,1,2,3,4,5,6,7,8,9,10,11,12]) ac w:=by
     refine eJ aO 13 ?_
     refine id (S.call2 (r:=(cd b g (aS v 0 99) (fun x=>(eT (cI b g).kind v x))).1) (r':=(cd b g (aS v 0 99) (fun x=>(eT (cI b g).kind v x))).2) (d:=26) (qX w b aQ (S.rd (S.arg hb)) g (aS v 0 99) 155 #[aM (aB bd ():af Int).1.b ((aB bd ():af Int).1.off+0*1),aM (aB a3 ():af Int).1.b ((aB a3 ():af Int).1.off+0*1)] (fun x=>(eT (cI b g).kind v x)) rfl (fun bT cg F hx eb=>F4 _ (aR b g).1 cg F hx eb (cI b g).kind (aB bd ():af Int) (bT.rd (bT.arg (S.rd au.al))) v (aB a3 ():af Int) (bT.rd (bT.arg (S.rd ak.al))))) (by kernel_rfl) rfl fun ac w N oR ER FF FG S up qo uE d80 d81 d82=>?_)
     have Q9:=fun b h=>(⟨(up b (an b h).1).1,(up b (an b h).1).2.trans (an b h).2⟩:_/\_)
     refine ao.dA S Q9 aL fun bx=>?_
     replace au:=au.up up
     replace ak:=ak.up up
     clear up d80
     clear d81
     exact S.dp aO [14,15] bx fun _ S=>adH _ _ oR FF _ _ _ S qo Q9 aL
    have adO ac w u N β (S:aj Tryz.prog Tryz.f86.ntmps w0 aa u N β (n9.dl [1,3,5,8] [(13,.v (GT.val b aQ)),(14,.v (R g)),(21,.v (B true)),(22,.v (R v)),(25,.v (.func (.func 155) #[] #[aM (aB bd ():af Int).1.b ((aB bd ():af Int).1.off+0*1),aM (aB a3 ():af Int).1.b ((aB a3 ():af Int).1.off+0*1)]))] 2 []) ac w) (au:ai w0 aa u N aX ([(cI b g).kind]) (aB bd ():af Int)) (ak:ai w0 aa u N b7 ([v]) (aB a3 ():af Int)) (an:cZ a_ ba N u) (aL:cr n9.ay.length bg β):W 7 (cc 18 [0,1,2,3,4,5,6,7,8,9,12]) ac w:=by
     exact eJ aO 10 (S.fv aO an aL [11] (.cons (aY fun w hw=>fU w v 0 99) .nil) fun _ _ _ S bU=>adI _ _ _ _ _ S au ak an bU)
    have adP ac w u N β (S:aj Tryz.prog Tryz.f86.ntmps w0 aa u N β (n9.dl [1,3,8] [(13,.v (GT.val b aQ)),(14,.v (R g)),(21,.v (B true)),(25,.v (.func (.func 155) #[] #[aM (aB bd ():af Int).1.b ((aB bd ():af Int).1.off+0*1),aM (aB a3 ():af Int).1.b ((aB a3 ():af Int).1.off+0*1)]))] 2 []) ac w) (au:ai w0 aa u N aX ([(cI b g).kind]) (aB bd ():af Int)) (ak:ai w0 aa u N b7 ([v]) (aB a3 ():af Int)) (an:cZ a_ ba N u) (aL:cr n9.ay.length bg β):W 8 (cc 18 [0,1,2,3,4,5,6,7,8,12]) ac w:=by
     exact eJ aO 9 (S.fv aO an aL [] (.cons (e8 ak.al (t:=3) (k:=0) (Nat.succ_pos 0) rfl (by kernel_rfl)) .nil) fun _ _ _ S bU=>adO _ _ _ _ _ S au ak an bU)
    have adQ ac w u N β (S:aj Tryz.prog Tryz.f86.ntmps w0 aa u N β (n9.dl [1,3] [(13,.v (GT.val b aQ)),(14,.v (R g)),(17,.v (B false)),(25,.v (.func (.func 155) #[] #[aM (aB bd ():af Int).1.b ((aB bd ():af Int).1.off+0*1),aM (aB a3 ():af Int).1.b ((aB a3 ():af Int).1.off+0*1)]))] 2 []) ac w) (au:ai w0 aa u N aX ([(cI b g).kind]) (aB bd ():af Int)) (ak:ai w0 aa u N b7 ([v]) (aB a3 ():af Int)) (an:cZ a_ ba N u) (aL:cr n9.ay.length bg β):W 12 (cc 18 [0,1,2,3,4,12]) ac w:=by
     exact eJ aO 5 (S.BX aO an aL [6,7,8] [(8,true)] (.cons (e8 au.al (t:=3) (k:=0) (Nat.succ_pos 0) rfl (by kernel_rfl)) .nil) (.cons sk .nil) fun _ _ _ S bU=>adP _ _ _ _ _ S au ak an bU)
    rw [aO]
    exact S.Fg aO [4] [(4,false)] (fun _=>S.Bn) (.cons dq .nil) fun _ S=>adQ _ _ _ _ _ S au ak (fun _ h=>⟨h,rfl⟩) (fun _ _=>rfl)
   clear S au ak
   rintro ac w ⟨mV,m0,u,N,β,S,nX⟩
   refine S.ex fun S=>?_
   refine S.aP 2 .nil [GT.val (cd b g (aS v 0 99) (fun x=>(eT (cI b g).kind v x))).1 mV,B (cd b g (aS v 0 99) (fun x=>(eT (cI b g).kind v x))).2] fun ac w β S=>?_
   exact cB (p':=()) S ym ym rfl rfl nX trivial
  ·have PM:¬((cI b g).kind=3):=ne_of_beq_false sk
   let n_:bw:=⟨[(1,.v (R g)),(3,.p 0 0),(5,.v (aM (aB a3 ():af Int).1.b ((aB a3 ():af Int).1.off+0*1))),(6,.p 1 0),(8,.v (aM (aB bd ():af Int).1.b ((aB bd ():af Int).1.off+0*1)))],[GT.cells b aQ,c2 a9]⟩
   obtain⟨ba,a_,bg,S,au,ak⟩:∃ba a_ bg,aj Tryz.prog Tryz.f86.ntmps w0 aa ba a_ bg n_ ac w/\ai w0 aa ba a_ aX ([(cI b g).kind]) (aB bd ():af Int)/\ai w0 aa ba a_ b7 ([v]) (aB a3 ():af Int):=⟨_,_,_,S.z,au,ak⟩
   refine lT (fun ac w=>∃oN ta u N β,aj Tryz.prog Tryz.f86.ntmps w0 aa u N β (n_.dl [1,3,5,8] [(7,.v (B (cd b g false (fun x=>(eT (cI b g).kind v x))).2))] 2 [(1,GT.cells (cd b g false (fun x=>(eT (cI b g).kind v x))).1 oN)]) ac w/\ai w0 aa u N ta (cd b g false (fun x=>(eT (cI b g).kind v x))).1 oN) ?_ ?_
   ·refine S.df (f:=18) 16 (by kernel_rfl) (by kernel_rfl) fun w S=>?_
    refine S.hm 14 [0,1,2,3] [] [(13,.v (GT.val b aQ)),(14,.v (R g)),(16,.v (B ((cI b g).kind==2)))] (.cons (e8 au.al (t:=3) (k:=0) (Nat.succ_pos 0) rfl (by kernel_rfl)) .nil) fun ac S=>?_
    refine S.aI 12 [12] [] [(25,.v (.func (.func 155) #[] #[aM (aB bd ():af Int).1.b ((aB bd ():af Int).1.off+0*1),aM (aB a3 ():af Int).1.b ((aB a3 ():af Int).1.off+0*1)]))] .nil fun ac S=>?_
    refine ao.mh fun W aO=>?_
    refine ao.l0 (l':=cc 18 [0,1,2,3,12]) (by kernel_rfl) ?_
    have ao1 ac w oN ta u N β (S:aj Tryz.prog Tryz.f86.ntmps w0 aa u N β (n_.dl [1,3,5,8] [(7,.v (B (cd b g false (fun x=>(eT (cI b g).kind v x))).2))] 2 [(1,GT.cells (cd b g false (fun x=>(eT (cI b g).kind v x))).1 oN)]) ac w) (we:ai w0 aa u N ta (cd b g false (fun x=>(eT (cI b g).kind v x))).1 oN):W 0 (cc 18 [0,1,2,3,4,5,6,7,8,9,10,11,12,13,14,15,16,17]) ac w:=by
     exact mi aO ⟨rfl,oN,ta,_,_,_,S.z,we⟩
    have ac7 ac w oN ta u N β (S:aj Tryz.prog Tryz.f86.ntmps w0 aa u N β (n_.dl [1,3,5,8] [(27,.v (GT.val (cd b g false (fun x=>(eT (cI b g).kind v x))).1 oN)),(28,.v (B (cd b g false (fun x=>(eT (cI b g).kind v x))).2))] 2 []) ac w) (we:ai w0 aa u N ta (cd b g false (fun x=>(eT (cI b g).kind v x))).1 oN) (an:cZ a_ ba N u) (aL:cr n_.ay.length bg β):W 2 (cc 18 [0,1,2,3,4,5,6,7,8,9,10,11,12,13,14,15]) ac w:=by
     exact S.hQ aO an aL (n_.dl [1,3,5,8] [(7,.v (B (cd b g false (fun x=>(eT (cI b g).kind v x))).2))] 2 [(1,GT.cells (cd b g false (fun x=>(eT (cI b g).kind v x))).1 oN)]) 1 .nil fun _ _ _ S=>⟨rfl,oN,ta,_,_,_,S,we⟩
    have ac8 ac w u N β (S:aj Tryz.prog Tryz.f86.ntmps w0 aa u N β (n_.dl [1,3,5,8] [(13,.v (GT.val b aQ)),(14,.v (R g)),(24,.v (B false)),(25,.v (.func (.func 155) #[] #[aM (aB bd ():af Int).1.b ((aB bd ():af Int).1.off+0*1),aM (aB a3 ():af Int).1.b ((aB a3 ():af Int).1.off+0*1)]))] 2 []) ac w) (au:ai w0 aa u N aX ([(cI b g).kind]) (aB bd ():af Int)) (ak:ai w0 aa u N b7 ([v]) (aB a3 ():af Int)) (an:cZ a_ ba N u) (aL:cr n_.ay.length bg β):W 5 (cc 18 [0,1,2,3,4,5,6,7,8,9,10,11,12]) ac w:=by
     refine eJ aO 13 ?_
     refine id (S.call2 (r:=(cd b g false (fun x=>(eT (cI b g).kind v x))).1) (r':=(cd b g false (fun x=>(eT (cI b g).kind v x))).2) (d:=26) (qX w b aQ (S.rd (S.arg hb)) g false 155 #[aM (aB bd ():af Int).1.b ((aB bd ():af Int).1.off+0*1),aM (aB a3 ():af Int).1.b ((aB a3 ():af Int).1.off+0*1)] (fun x=>(eT (cI b g).kind v x)) rfl (fun bT cg F hx eb=>F4 _ (aR b g).1 cg F hx eb (cI b g).kind (aB bd ():af Int) (bT.rd (bT.arg (S.rd au.al))) v (aB a3 ():af Int) (bT.rd (bT.arg (S.rd ak.al))))) (by kernel_rfl) rfl fun ac w N ajf arC Vr Ft S up A2 nW d119 d120 d121=>?_)
     have Ai:=fun b h=>(⟨(up b (an b h).1).1,(up b (an b h).1).2.trans (an b h).2⟩:_/\_)
     refine ao.dA S Ai aL fun bx=>?_
     replace au:=au.up up
     replace ak:=ak.up up
     clear up d119
     clear d120
     exact S.dp aO [14,15] bx fun _ S=>ac7 _ _ ajf Vr _ _ _ S A2 Ai aL
    have HQ ac w u N β (S:aj Tryz.prog Tryz.f86.ntmps w0 aa u N β (n_.dl [1,3,5,8] [(13,.v (GT.val b aQ)),(14,.v (R g)),(21,.v (B false)),(22,.v undef),(25,.v (.func (.func 155) #[] #[aM (aB bd ():af Int).1.b ((aB bd ():af Int).1.off+0*1),aM (aB a3 ():af Int).1.b ((aB a3 ():af Int).1.off+0*1)]))] 2 []) ac w) (au:ai w0 aa u N aX ([(cI b g).kind]) (aB bd ():af Int)) (ak:ai w0 aa u N b7 ([v]) (aB a3 ():af Int)) (an:cZ a_ ba N u) (aL:cr n_.ay.length bg β):W 7 (cc 18 [0,1,2,3,4,5,6,7,8,9,12]) ac w:=by
     exact eJ aO 10 (S.fv aO an aL [11] .nil fun _ _ _ S bU=>ac8 _ _ _ _ _ S au ak an bU)
    have ac_ ac w u N β (S:aj Tryz.prog Tryz.f86.ntmps w0 aa u N β (n_.dl [1,3,8] [(13,.v (GT.val b aQ)),(14,.v (R g)),(21,.v (B false)),(25,.v (.func (.func 155) #[] #[aM (aB bd ():af Int).1.b ((aB bd ():af Int).1.off+0*1),aM (aB a3 ():af Int).1.b ((aB a3 ():af Int).1.off+0*1)]))] 2 []) ac w) (au:ai w0 aa u N aX ([(cI b g).kind]) (aB bd ():af Int)) (ak:ai w0 aa u N b7 ([v]) (aB a3 ():af Int)) (an:cZ a_ ba N u) (aL:cr n_.ay.length bg β):W 8 (cc 18 [0,1,2,3,4,5,6,7,8,12]) ac w:=by
     exact eJ aO 9 (S.fv aO an aL [] .nil fun _ _ _ S bU=>HQ _ _ _ _ _ S au ak an bU)
    have ada ac w u N β (S:aj Tryz.prog Tryz.f86.ntmps w0 aa u N β (n_.dl [1,3] [(13,.v (GT.val b aQ)),(14,.v (R g)),(17,.v (B false)),(25,.v (.func (.func 155) #[] #[aM (aB bd ():af Int).1.b ((aB bd ():af Int).1.off+0*1),aM (aB a3 ():af Int).1.b ((aB a3 ():af Int).1.off+0*1)]))] 2 []) ac w) (au:ai w0 aa u N aX ([(cI b g).kind]) (aB bd ():af Int)) (ak:ai w0 aa u N b7 ([v]) (aB a3 ():af Int)) (an:cZ a_ ba N u) (aL:cr n_.ay.length bg β):W 12 (cc 18 [0,1,2,3,4,12]) ac w:=by
     exact eJ aO 5 (S.BX aO an aL [6,7,8] [(8,false)] (.cons (e8 au.al (t:=3) (k:=0) (Nat.succ_pos 0) rfl (by kernel_rfl)) .nil) (.cons sk .nil) fun _ _ _ S bU=>ac_ _ _ _ _ _ S au ak an bU)
    rw [aO]
    exact S.Fg aO [4] [(4,false)] (fun _=>S.Bn) (.cons dq .nil) fun _ S=>ada _ _ _ _ _ S au ak (fun _ h=>⟨h,rfl⟩) (fun _ _=>rfl)
   clear S au ak
   rintro ac w ⟨oN,ta,u,N,β,S,we⟩
   refine S.ex fun S=>?_
   refine S.aP 2 .nil [GT.val (cd b g false (fun x=>(eT (cI b g).kind v x))).1 oN,B (cd b g false (fun x=>(eT (cI b g).kind v x))).2] fun ac w β S=>?_
   exact cB (p':=()) S ym ym rfl rfl we trivial
theorem XQ (w0:World) (b:a9) (aQ:ec) (hb:br w0 b aQ) (g:Int) (jP:af Int) (aJ:br w0 [g] jP) (v:Int) (mW:af Int) (bu:br w0 [v] mW):Calls Tryz.prog 85 [GT.val b aQ,aM jP.1.b (jP.1.off+0*1),aM mW.1.b (mW.1.off+0*1)].toArray w0 (fG aa w0 ((jZ b g v).1:a9) ((jZ b g v).2:Bool)):=by
 refine Calls.run aa Tryz.func85 ?_
 intro ac β S
 have iD:b.mem.length<=4194304:=ag.le (b_.mem (d:=b) hb)
 have iW:b.U.length<=4194304:=ag.le (b_.U (d:=b) hb)
 have iX:b.outs.length<=4194304:=ag.le (b_.outs (d:=b) hb)
 refine S.go 12 (.cons (e8 (S.arg aJ) (t:=3) (k:=0) (Nat.succ_pos 0) rfl (by kernel_rfl)) (.cons (e8 (S.arg bu) (t:=3) (k:=0) (Nat.succ_pos 0) rfl (by kernel_rfl)) .nil)) fun ac w β S=>S.fk (r:=(jZ b g v).1) (r':=(jZ b g v).2) (d:=9) (Xn w b aQ (S.rd (S.arg hb)) g v (show aq v from ag.el (S.arg bu) 0 (Nat.succ_pos 0))) fun ac w N ae eP cR fQ S up cG a1 d7 d8 d9=>?_
 clear up d7
 clear d8
 refine S.aP 7 .nil [GT.val (jZ b g v).1 ae,B (jZ b g v).2] fun ac w β S=>?_
 exact cB (p':=()) S (show(jZ b g v).1=(jZ b g v).1 by clear S;rfl) (show(jZ b g v).2=(jZ b g v).2 by clear S;rfl) rfl rfl cG trivial
theorem DR {p:Prop} (h:p:=by clear S;(first|rfl|(unfold j0;simp [*];done))):p:=h
theorem Xw (w0:World) (b:a9) (aQ:ec) (hb:br w0 b aQ) (g:Int):Calls Tryz.prog 88 [GT.val b aQ,R g].toArray w0 (fG aa w0 ((j0 b g).1:a9) ((j0 b g).2:Bool)):=by
 refine Calls.run aa Tryz.func88 ?_
 intro ac β S
 have iD:b.mem.length<=4194304:=ag.le (b_.mem (d:=b) hb)
 have iW:b.U.length<=4194304:=ag.le (b_.U (d:=b) hb)
 have iX:b.outs.length<=4194304:=ag.le (b_.outs (d:=b) hb)
 refine S.go 18 (.cons (aY fun w hw=>N1 w b aQ (cQ (S.arg hb) hw) g) .nil) fun ac w β S=>?_
 refine S.h5 2 (cI b g).kind () (iu.kind (d:=(cI b g)) (Pl (S.arg hb) g)) fun β N bd aX S up au d4=>?_
 clear up d4
 refine S.a8 6 (.cons (e8 au.al (t:=3) (k:=0) (Nat.succ_pos 0) rfl (by kernel_rfl)) .nil) ((cI b g).kind==1) (fun ac w β cf gn S=>?_) (fun ac w β cf gn S=>?_)
 ·refine S.go 4 .nil fun ac w β S=>S.fk (r:=(cd b g true (fun x=>(nd (cI b g).kind x))).1) (r':=(cd b g true (fun x=>(nd (cI b g).kind x))).2) (d:=20) (qX w b aQ (S.rd (S.arg hb)) g true 156 #[aM (aB bd ():af Int).1.b ((aB bd ():af Int).1.off+0*1)] (fun x=>(nd (cI b g).kind x)) rfl (fun bT cg F hx eb=>NX _ (aR b g).1 cg F hx eb (cI b g).kind (aB bd ():af Int) (bT.rd (bT.arg (S.rd au.al))))) fun ac w N uR bE bI jS S up ft aW d13 d14 d15=>?_
  replace au:=au.up up
  clear up d13
  clear d14
  refine S.aP 7 .nil [GT.val (cd b g true (fun x=>(nd (cI b g).kind x))).1 uR,B (cd b g true (fun x=>(nd (cI b g).kind x))).2] fun ac w β S=>?_
  exact cB (p':=()) S DR DR rfl rfl ft trivial
 refine S.go 4 (.cons (e8 au.al (t:=3) (k:=0) (Nat.succ_pos 0) rfl (by kernel_rfl)) .nil) fun ac w β S=>S.fk (r:=(cd b g ((cI b g).kind==4) (fun x=>(nd (cI b g).kind x))).1) (r':=(cd b g ((cI b g).kind==4) (fun x=>(nd (cI b g).kind x))).2) (d:=20) (qX w b aQ (S.rd (S.arg hb)) g ((cI b g).kind==4) 156 #[aM (aB bd ():af Int).1.b ((aB bd ():af Int).1.off+0*1)] (fun x=>(nd (cI b g).kind x)) rfl (fun bT cg F hx eb=>NX _ (aR b g).1 cg F hx eb (cI b g).kind (aB bd ():af Int) (bT.rd (bT.arg (S.rd au.al))))) fun ac w N nB ie jH u4 S up ll bY d24 d25 d26=>?_
 clear up d24
 clear d25
 refine S.aP 7 .nil [GT.val (cd b g ((cI b g).kind==4) (fun x=>(nd (cI b g).kind x))).1 nB,B (cd b g ((cI b g).kind==4) (fun x=>(nd (cI b g).kind x))).2] fun ac w β S=>?_
 exact cB (p':=()) S DR DR rfl rfl ll trivial
theorem X5 (w0:World) (b:a9) (aQ:ec) (hb:br w0 b aQ) (g:Int) (jP:af Int) (aJ:br w0 [g] jP):Calls Tryz.prog 87 [GT.val b aQ,aM jP.1.b (jP.1.off+0*1)].toArray w0 (fG aa w0 ((j0 b g).1:a9) ((j0 b g).2:Bool)):=by
 refine Calls.run aa Tryz.func87 ?_
 intro ac β S
 have iD:b.mem.length<=4194304:=ag.le (b_.mem (d:=b) hb)
 have iW:b.U.length<=4194304:=ag.le (b_.U (d:=b) hb)
 have iX:b.outs.length<=4194304:=ag.le (b_.outs (d:=b) hb)
 refine S.go 11 (.cons (e8 (S.arg aJ) (t:=3) (k:=0) (Nat.succ_pos 0) rfl (by kernel_rfl)) .nil) fun ac w β S=>S.fk (r:=(j0 b g).1) (r':=(j0 b g).2) (d:=7) (Xw w b aQ (S.rd (S.arg hb)) g) fun ac w N ae eP cR fQ S up cG a1 d7 d8 d9=>?_
 clear up d7
 clear d8
 refine S.aP 7 .nil [GT.val (j0 b g).1 ae,B (j0 b g).2] fun ac w β S=>?_
 exact cB (p':=()) S (show(j0 b g).1=(j0 b g).1 by clear S;rfl) (show(j0 b g).2=(j0 b g).2 by clear S;rfl) rfl rfl cG trivial
theorem yr {p:Prop} (h:p:=by clear S;(unfold fr;(repeat' split)<;>first|rfl|(exfalso;omega)|(exfalso;simp_all;done)|(exfalso;simp_all;omega))):p:=h
theorem Gd (w0:World) (p:Int) (a2:aq p) (n:Int):Calls Tryz.prog 157 [R p,R n].toArray w0 (fun e w'=>e= .returned (.tuple #[R (fr p n).1,B (fr p n).2])/\bX aa w0 w'):=by
 refine Calls.run aa Tryz.func157 ?_
 intro ac β S
 have aeP:=a2.b9;have aex:=a2.hi
 refine S.bs 13 (.cons (aY fun w hw=>zr w p) .nil) (!(aS p 0 255)) (fun ac w β h1 S=>?_) (fun ac w β h1 S=>?_)
 ·have ah:=cw h1
  have c3:=dC ah
  exact S.bb 15 .nil [R p,B false] (lO (l5 (show p=(fr p n).1 from yr)) (m8 (show false=(fr p n).2 from yr)))
 have b2:=cl h1
 have gb:=cM b2
 refine S.bs 6 (.cons (aY fun w hw=>fU w n 0 7) .nil) (!(aS n 0 7)) (fun ac w β dU S=>?_) (fun ac w β dU S=>?_)
 ·have eH:=cw dU
  have nP:=dC eH
  exact S.bb 9 .nil [R p,B false] (lO (l5 (show p=(fr p n).1 from yr)) (m8 (show false=(fr p n).2 from yr)))
 have gd:=cl dU
 have p9:=cM gd
 exact S.bb 14 (.cons (Nt (yk:= .i64) (x:=1) (y:=n) (by omega)) (.cons (WC (x:=p) (y:=(oS 1 n))) .nil)) [R (AS p (oS 1 n)),B true] (lO (l5 (show(AS p (oS 1 n))=(fr p n).1 from yr)) (m8 (show true=(fr p n).2 from yr)))
theorem Xs (w0:World) (b:a9) (aQ:ec) (hb:br w0 b aQ) (g:Int) (n:Int):Calls Tryz.prog 90 [GT.val b aQ,R g,R n].toArray w0 (fG aa w0 ((jL b g n).1:a9) ((jL b g n).2:Bool)):=by
 refine Calls.run aa Tryz.func90 ?_
 intro ac β S
 have iD:b.mem.length<=4194304:=ag.le (b_.mem (d:=b) hb)
 have iW:b.U.length<=4194304:=ag.le (b_.U (d:=b) hb)
 have iX:b.outs.length<=4194304:=ag.le (b_.outs (d:=b) hb)
 refine S.go 11 .nil fun ac w β S=>S.fk (r:=(aR b g).1) (r':=(aR b g).2) (d:=15) (Cq w b aQ (S.rd (S.arg hb)) g) fun ac w N ae eP cR fQ S up cG a1 d7 d8 d9=>?_
 clear up d7
 clear d8
 refine S.go 23 (.cons (aY fun w hw=>Gd w (aR b g).1.av (a5.av (d:=(aR b g).1) cG.al) n) .nil) fun ac w β S=>?_
 refine S.h5 3 (fr (aR b g).1.av n).1 () (Lw (a5.av (d:=(aR b g).1) cG.al)) fun β N pS dy S up aW d13=>?_
 clear up d13
 refine S.go 5 .nil fun ac w β S=>S.fk (r:=(cd b g (fr (aR b g).1.av n).2 (fun x=>({x with av:=(fr (aR b g).1.av n).1}:az))).1) (r':=(cd b g (fr (aR b g).1.av n).2 (fun x=>({x with av:=(fr (aR b g).1.av n).1}:az))).2) (d:=29) (qX w b aQ (S.rd (S.arg hb)) g (fr (aR b g).1.av n).2 158 #[aM (aB pS ():af Int).1.b ((aB pS ():af Int).1.off+0*1)] (fun x=>({x with av:=(fr (aR b g).1.av n).1}:az)) rfl (fun bT cg F hx eb=>Xt _ (aR b g).1 cg F hx eb (fr (aR b g).1.av n).1 (aB pS ():af Int) (bT.rd (bT.arg (S.rd aW.al))))) fun ac w N lM b3 cm lV S up eg en d21 d22 d23=>?_
 clear up d21
 clear d22
 refine S.aP 7 .nil [GT.val (cd b g (fr (aR b g).1.av n).2 (fun x=>({x with av:=(fr (aR b g).1.av n).1}:az))).1 lM,B (cd b g (fr (aR b g).1.av n).2 (fun x=>({x with av:=(fr (aR b g).1.av n).1}:az))).2] fun ac w β S=>?_
 exact cB (p':=()) S (show(jL b g n).1=(cd b g (fr (aR b g).1.av n).2 (fun x=>({x with av:=(fr (aR b g).1.av n).1}:az))).1 by clear S;rfl) (show(jL b g n).2=(cd b g (fr (aR b g).1.av n).2 (fun x=>({x with av:=(fr (aR b g).1.av n).1}:az))).2 by clear S;rfl) rfl rfl eg trivial
theorem XX (w0:World) (b:a9) (aQ:ec) (hb:br w0 b aQ) (g:Int) (jP:af Int) (aJ:br w0 [g] jP) (n:Int) (cA:af Int) (bc:br w0 [n] cA):Calls Tryz.prog 89 [GT.val b aQ,aM jP.1.b (jP.1.off+0*1),aM cA.1.b (cA.1.off+0*1)].toArray w0 (fG aa w0 ((jL b g n).1:a9) ((jL b g n).2:Bool)):=by
 refine Calls.run aa Tryz.func89 ?_
 intro ac β S
 have iD:b.mem.length<=4194304:=ag.le (b_.mem (d:=b) hb)
 have iW:b.U.length<=4194304:=ag.le (b_.U (d:=b) hb)
 have iX:b.outs.length<=4194304:=ag.le (b_.outs (d:=b) hb)
 refine S.go 12 (.cons (e8 (S.arg aJ) (t:=3) (k:=0) (Nat.succ_pos 0) rfl (by kernel_rfl)) (.cons (e8 (S.arg bc) (t:=3) (k:=0) (Nat.succ_pos 0) rfl (by kernel_rfl)) .nil)) fun ac w β S=>S.fk (r:=(jL b g n).1) (r':=(jL b g n).2) (d:=9) (Xs w b aQ (S.rd (S.arg hb)) g n) fun ac w N ae eP cR fQ S up cG a1 d7 d8 d9=>?_
 clear up d7
 clear d8
 refine S.aP 7 .nil [GT.val (jL b g n).1 ae,B (jL b g n).2] fun ac w β S=>?_
 exact cB (p':=()) S (show(jL b g n).1=(jL b g n).1 by clear S;rfl) (show(jL b g n).2=(jL b g n).2 by clear S;rfl) rfl rfl cG trivial
theorem Xo (w0:World) (b:a9) (aQ:ec) (hb:br w0 b aQ) (g:Int) (c:eM) (hc:hC c):Calls Tryz.prog 92 [GT.val b aQ,R g,GT.val c ()].toArray w0 (fG aa w0 ((jK b g c).1:a9) ((jK b g c).2:Bool)):=by
 refine Calls.run aa Tryz.func92 ?_
 intro ac β S
 have iD:b.mem.length<=4194304:=ag.le (b_.mem (d:=b) hb)
 have iW:b.U.length<=4194304:=ag.le (b_.U (d:=b) hb)
 have iX:b.outs.length<=4194304:=ag.le (b_.outs (d:=b) hb)
 refine S.go 9 .nil fun ac w β S=>?_
 refine S.h5 1 c () hc fun β N bd aX S up au d4=>?_
 clear up d4
 refine dj ?_
 refine S.df (f:=10) 8 (by kernel_rfl) (by kernel_rfl) fun w S=>?_
 refine S.hm 6 [0,1,2,4] [] [(8,.v (GT.val b aQ)),(9,.v (R g)),(10,.v (GT.val c ())),(12,.v (.func (.func 160) #[] #[aM (aB bd ():af eM).1.b ((aB bd ():af eM).1.off+0*3)]))] (.cons (hU au.al (t:=81) (k:=0) (Nat.succ_pos 0) rfl (by kernel_rfl) (by kernel_rfl)) .nil) fun ac S=>?_
 refine S.jk 3 [] [(11,.v (B (km c)))] 2 [] (.cons (aY fun w hw=>F7 w c) .nil) fun ac w β S=>?_
 refine ao.one (i:=5) (by kernel_rfl) ?_
 refine id (S.call2 (r:=(cd b g (km c) (fun x=>({x with bH:=c}:az))).1) (r':=(cd b g (km c) (fun x=>({x with bH:=c}:az))).2) (d:=13) (qX w b aQ (S.rd (S.arg hb)) g (km c) 160 #[aM (aB bd ():af eM).1.b ((aB bd ():af eM).1.off+0*3)] (fun x=>({x with bH:=c}:az)) rfl (fun bT cg F hx eb=>Xp _ (aR b g).1 cg F hx eb c (aB bd ():af eM) (bT.rd (bT.arg (S.rd au.al))))) (by kernel_rfl) rfl fun ac w N bZ e7 ir eE S up a6 eR d11 d12 d13=>?_)
 refine ao.next S up (by kernel_rfl) ?_
 clear up d11
 clear d12
 refine S.hm 2 [6,7] [] [(14,.v (GT.val (cd b g (km c) (fun x=>({x with bH:=c}:az))).1 bZ)),(15,.v (B (cd b g (km c) (fun x=>({x with bH:=c}:az))).2))] .nil fun ac S=>?_
 refine S.b8 8 [] [] 2 [(1,GT.cells (cd b g (km c) (fun x=>({x with bH:=c}:az))).1 bZ)] .nil fun ac w β S=>?_
 refine S.b8 9 [] [(7,.v (B (cd b g (km c) (fun x=>({x with bH:=c}:az))).2))] 2 [] .nil fun ac w β S=>?_
 refine ao.done (by kernel_rfl) ?_ _
 refine S.ex fun S=>?_
 refine S.aP 2 .nil [GT.val (cd b g (km c) (fun x=>({x with bH:=c}:az))).1 bZ,B (cd b g (km c) (fun x=>({x with bH:=c}:az))).2] fun ac w β S=>?_
 exact cB (p':=()) S (show(jK b g c).1=(cd b g (km c) (fun x=>({x with bH:=c}:az))).1 by clear S;rfl) (show(jK b g c).2=(cd b g (km c) (fun x=>({x with bH:=c}:az))).2 by clear S;rfl) rfl rfl a6 trivial
theorem XS (w0:World) (b:a9) (aQ:ec) (hb:br w0 b aQ) (g:Int) (jP:af Int) (aJ:br w0 [g] jP) (c:eM) (dG:af eM) (hc:br w0 [c] dG):Calls Tryz.prog 91 [GT.val b aQ,aM jP.1.b (jP.1.off+0*1),aM dG.1.b (dG.1.off+0*3)].toArray w0 (fG aa w0 ((jK b g c).1:a9) ((jK b g c).2:Bool)):=by
 refine Calls.run aa Tryz.func91 ?_
 intro ac β S
 have iD:b.mem.length<=4194304:=ag.le (b_.mem (d:=b) hb)
 have iW:b.U.length<=4194304:=ag.le (b_.U (d:=b) hb)
 have iX:b.outs.length<=4194304:=ag.le (b_.outs (d:=b) hb)
 refine S.go 12 (.cons (e8 (S.arg aJ) (t:=3) (k:=0) (Nat.succ_pos 0) rfl (by kernel_rfl)) (.cons (hU (S.arg hc) (t:=81) (k:=0) (Nat.succ_pos 0) rfl (by kernel_rfl) (by kernel_rfl)) .nil)) fun ac w β S=>S.fk (r:=(jK b g c).1) (r':=(jK b g c).2) (d:=9) (Xo w b aQ (S.rd (S.arg hb)) g c (show hC c from ag.el (S.arg hc) 0 (Nat.succ_pos 0))) fun ac w N ae eP cR fQ S up cG a1 d7 d8 d9=>?_
 clear up d7
 clear d8
 refine S.aP 7 .nil [GT.val (jK b g c).1 ae,B (jK b g c).2] fun ac w β S=>?_
 exact cB (p':=()) S (show(jK b g c).1=(jK b g c).1 by clear S;rfl) (show(jK b g c).2=(jK b g c).2 by clear S;rfl) rfl rfl cG trivial
theorem ru {p:Prop} (h:p:=by clear S;(unfold ew;(repeat' split)<;>first|rfl|(exfalso;omega)|(exfalso;simp_all;done)|(exfalso;simp_all;omega)|(simp_all;done))):p:=h
theorem Xu (w0:World) (b:a9) (aQ:ec) (hb:br w0 b aQ) (page:Int) (cell:Int) (v:Int) (bu:aq v):Calls Tryz.prog 94 [GT.val b aQ,R page,R cell,R v].toArray w0 (fG aa w0 ((ew b page cell v).1:a9) ((ew b page cell v).2:Bool)):=by
 refine Calls.run aa Tryz.func94 ?_
 intro ac β S
 have iD:b.mem.length<=4194304:=ag.le (b_.mem (d:=b) hb)
 have iW:b.U.length<=4194304:=ag.le (b_.U (d:=b) hb)
 have iX:b.outs.length<=4194304:=ag.le (b_.outs (d:=b) hb)
 have yc:=bu.b9;have x6:=bu.hi
 refine S.go 10 .nil fun ac w β S=>S.ct (r:=b) (d:=12) (pU w b aQ (S.rd (S.arg hb))) fun ac w N ae aX S up au d4=>?_
 clear up d4
 have i14:aq b.av:=b_.av (d:=b) au.al
 obtain⟨de,eE,dy,a1,a6,aW,_,_,_,d15,d16,d17⟩:=wH au
 refine S.bs 11 (.cons (aY fun w hw=>zp w b aQ (cQ (S.arg hb) hw)) .nil) (!(hK b)) (fun ac w β h2 S=>?_) (fun ac w β h2 S=>?_)
 ·have mR:=cw h2
  refine S.aP 25 .nil [GT.val b ae,B false] fun ac w β S=>?_
  have en:=kN (x:=b) (p:=ae) a1 a6 aW d15 d16 d17 i14
  exact cB (p':=()) S ru ru rfl rfl en trivial
 have iU:=cl h2
 have o9:=zm iU
 refine S.bs 5 (.cons (aY fun w hw=>gJ w page 8 (by omega)) .nil) (!(aS page 0 (8-1))) (fun ac w β iC S=>?_) (fun ac w β iC S=>?_)
 ·have fR:=cw iC
  have ra:=dC fR
  refine S.aP 20 .nil [GT.val b ae,B false] fun ac w β S=>?_
  have gg:=kN (x:=b) (p:=ae) a1 a6 aW d15 d16 d17 i14
  exact cB (p':=()) S ru ru rfl rfl gg trivial
 have nj:=cl iC
 have xP:=cM nj
 refine S.bs 5 (.cons (aY fun w hw=>gJ w cell 4 (by omega)) .nil) (!(aS cell 0 (4-1))) (fun ac w β jv S=>?_) (fun ac w β jv S=>?_)
 ·have Dh:=cw jv
  have abH:=dC Dh
  refine S.aP 15 .nil [GT.val b ae,B false] fun ac w β S=>?_
  have eV:=kN (x:=b) (p:=ae) a1 a6 aW d15 d16 d17 i14
  exact cB (p':=()) S ru ru rfl rfl eV trivial
 have nk:=cl jv
 have tR:=cM nk
 refine S.bs 6 (.cons (aY fun w hw=>fU w v 0 99) .nil) (!(aS v 0 99)) (fun ac w β nm S=>?_) (fun ac w β nm S=>?_)
 ·have re:=cw nm
  have zX:=dC re
  refine S.aP 9 .nil [GT.val b ae,B false] fun ac w β S=>?_
  have gT:=kN (x:=b) (p:=ae) a1 a6 aW d15 d16 d17 i14
  exact cB (p':=()) S ru ru rfl rfl gT trivial
 have rf:=cl nm
 have De:=cM rf
 refine S.go 10 .nil fun ac w β S=>S.ct (r:=gm b.mem page cell v) (d:=37) (zt w b.mem aQ.mem (S.rd (b_.mem (d:=b) (S.arg hb))) page cell v bu) fun ac w N rJ u6 S up oH d44=>?_
 have d46:=J.w d44 a6.sub
 have d47:=J.w d44 aW.sub
 replace a6:=a6.up up
 replace aW:=aW.up up
 clear up d44
 refine S.aP 12 .nil [GT.val (⟨(gm b.mem page cell v),b.U,b.outs,b.av⟩:a9) (⟨rJ,ae.U,ae.outs⟩:ec),B true] fun ac w β S=>?_
 have px:=kN (x:=(⟨(gm b.mem page cell v),b.U,b.outs,b.av⟩:a9)) (p:=(⟨rJ,ae.U,ae.outs⟩:ec)) oH a6 aW (J.symm d46) (J.symm d47) d17 i14
 exact cB (p':=()) S ru ru rfl rfl px trivial
theorem X0 (w0:World) (b:a9) (aQ:ec) (hb:br w0 b aQ) (page:Int) (hh:af Int) (dV:br w0 [page] hh) (cell:Int) (uS:af Int) (k2:br w0 [cell] uS) (v:Int) (mW:af Int) (bu:br w0 [v] mW):Calls Tryz.prog 93 [GT.val b aQ,aM hh.1.b (hh.1.off+0*1),aM uS.1.b (uS.1.off+0*1),aM mW.1.b (mW.1.off+0*1)].toArray w0 (fG aa w0 ((ew b page cell v).1:a9) ((ew b page cell v).2:Bool)):=by
 refine Calls.run aa Tryz.func93 ?_
 intro ac β S
 have iD:b.mem.length<=4194304:=ag.le (b_.mem (d:=b) hb)
 have iW:b.U.length<=4194304:=ag.le (b_.U (d:=b) hb)
 have iX:b.outs.length<=4194304:=ag.le (b_.outs (d:=b) hb)
 refine S.go 13 (.cons (e8 (S.arg dV) (t:=3) (k:=0) (Nat.succ_pos 0) rfl (by kernel_rfl)) (.cons (e8 (S.arg k2) (t:=3) (k:=0) (Nat.succ_pos 0) rfl (by kernel_rfl)) (.cons (e8 (S.arg bu) (t:=3) (k:=0) (Nat.succ_pos 0) rfl (by kernel_rfl)) .nil))) fun ac w β S=>S.fk (r:=(ew b page cell v).1) (r':=(ew b page cell v).2) (d:=11) (Xu w b aQ (S.rd (S.arg hb)) page cell v (show aq v from ag.el (S.arg bu) 0 (Nat.succ_pos 0))) fun ac w N ae eP cR fQ S up cG a1 d7 d8 d9=>?_
 clear up d7
 clear d8
 refine S.aP 7 .nil [GT.val (ew b page cell v).1 ae,B (ew b page cell v).2] fun ac w β S=>?_
 exact cB (p':=()) S (show(ew b page cell v).1=(ew b page cell v).1 by clear S;rfl) (show(ew b page cell v).2=(ew b page cell v).2 by clear S;rfl) rfl rfl cG trivial
theorem JY {p:Prop} (h:p:=by clear S;first|rfl|(simp [tH, *];done)|(simp [tH, *];omega)|(simp_all [tH];done)|(simp_all [tH];omega)):p:=h
theorem Yk (w0:World) (c:eM) (n:Int):Calls Tryz.prog 190 [GT.val c (),R n].toArray w0 (fun e w'=>e= .returned (B (tH c n))/\bX aa w0 w'):=by
 refine Calls.run aa Tryz.func190 ?_
 intro ac β S
 refine S.bs 11 (.cons (aY fun w hw=>F7 w c) .nil) (km c) (fun ac w β h1 S=>?_) (fun ac w β h1 S=>?_)
 ·refine S.bs 4 (.cons (aY fun w hw=>fU w n 0 7) .nil) (aS n 0 7) (fun ac w β ah S=>?_) (fun ac w β ah S=>?_)
  ·have c3:=cM ah
   exact S.bb 11 (.cons (FO (yk:= .i64) (x:=c.post) (y:=n) (by omega)) (.cons (te (x:=(qA c.post n)) (y:=1)) .nil)) [B ((mg (qA c.post n) 1)==1)] (b4 JY)
  have ej:=dC ah
  exact S.bb 11 .nil [B false] (b4 JY)
 exact S.bb 15 .nil [B false] (b4 JY)
end Go.Proofs.YtmeoackmjdoecaaGreat
