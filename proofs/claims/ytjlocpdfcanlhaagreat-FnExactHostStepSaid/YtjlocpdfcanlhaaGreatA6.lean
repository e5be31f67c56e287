/- The walks: what each function that the laws reach computes (part 2). -/
import Derived.Test.YtjlocpdfcanlhaaGreatA5
import Derived.Test.YtjlocpdfcanlhaaGreatProg
import Derived.KernelRfl
namespace Go.Proofs.YtjlocpdfcanlhaaGreat
open Go
set_option linter.unusedVariables false
set_option linter.unusedSimpArgs false
set_option maxRecDepth 100000
set_option maxHeartbeats 2000000
theorem TA {p:Prop} (h:p:=by clear S;(first|(unfold hg;rw [if_pos (by omega)];done)|(unfold hg;rw [if_pos (by omega)];first|rfl|(simp;done))|(unfold hg;rw [if_neg (by omega)];done)|(unfold hg;rw [if_neg (by omega)];first|rfl|(simp;done)))):p:=h
theorem ZH (w0:World) (m:List (List Int)) (pm:aC (List Int)) (hm:bT w0 m pm) (page:Int):Calls Tryz.prog 318 [R m.length pm.1,aa page].toArray w0 (dw ab w0 (hg m page:List Int)):=by
 refine Calls.run ab Tryz.func318 ?_
 intro ac β S
 have qW:m.length<=4194304:=af.le hm
 refine S.bb 16 (.cons (g8 (m.length:Int) 1) (.cons (aE fun w hw=>fw w page 0 ((m.length:Int)-1)) .nil)) (!(a3 page 0 ((m.length:Int)-1))) (fun ac w β h1 S=>?_) (fun ac w β h1 S=>?_)
 ·have an:=cn h1
  have b4:=dm an
  refine S.go 3 .nil fun ac w β S=>S.mG (α:=Int) (m:=4) (by':=8) (d:=11) (by omega) (show 4<=4194304 by omega) fun ac w N oL dO S up bJ d7=>?_
  clear up d7
  refine S.bq 4 .nil [R 4 oL.1] fun ac w β S=>?_
  exact cx S (show hg m page=(List.replicate 4 (GT.eK:Int)) from TA) (by rw [show 4=(List.replicate 4 (GT.eK:Int)).length from(by simp)];rfl) bJ
 have db:=b_ h1
 have fx:=cU db
 refine S.go 5 .nil fun ac w β S=>S.gR (α:=Int) (d:=12) fun ac w N fY e3 S up bG d13=>?_
 clear up d13
 have Oz:(el m page.toNat).length<=4194304:=af.le (af.el (S.arg hm) page.toNat (by omega))
 refine S.go 4 (.cons (cp (S.arg hm) page Tryz.underlying22) (.cons (cj (S.arg hm) 38 page.toNat) .nil)) fun ac w β S=>S.lC (α:=Int) bG (af.el (S.arg hm) page.toNat (by omega)) (fun _ _ h=>h) (by':=8) (d:=17) (lx:=0) (ly:=(el m page.toNat).length) rfl fun ac w N nW pK S up gE d17=>?_
 clear up d17
 refine S.bq 4 .nil [R (el m page.toNat).length nW.1] fun ac w β S=>?_
 exact cx S (show hg m page=(el m page.toNat) from TA) rfl gE
theorem ZO (w0:World) (t:List aQ) (bg:aC aQ) (bs:bT w0 t bg) (page:Int):Calls Tryz.prog 346 [R t.length bg.1,aa page].toArray w0 (dw ab w0 (gv t page:List Int)):=by
 refine Calls.run ab Tryz.func346 ?_
 intro ac β S
 have AU:t.length<=4194304:=af.le bs
 refine S.go 7 .nil fun ac w β S=>S.gR (α:=Int) (d:=7) fun ac w N ae br S up aD d4=>?_
 clear up d4
 refine S.go 10 .nil fun ac w β S=>?_
 refine dc (fun a5 ac w=>∃(k:Nat) (acc:List Int) (bL:_) (cW:_) (u:_) (N:_) (β:_),a5=t.length-k/\(k<=t.length)/\(acc=lL k (fun i=>decide ((el t i).page=page)))/\aj Tryz.prog Tryz.f346.ntmps w0 ab u N β ⟨[(0,.v (R t.length bg.1)),(1,.v (aa page)),(5,.v (R acc.length bL.1)),(6,.v (aa (k:Int)))],[]⟩ ac w/\ad w0 ab u N cW acc bL) _ ⟨0,([]:List Int),ae,br,_,_,_,rfl,cv,(by rfl),S.z,aD⟩ ?_
 clear S aD
 rintro f8 a5 eT ac w ⟨k,acc,bL,cW,u,N,β,rfl,hk,bt,S,ao⟩
 refine S.rs fun S=>?_
 have gD:acc.length<=k:=by rw [bt];exact yu _ _
 refine S.aI 9 .nil (decide ((k:Int)<(t.length:Int))) (fun ac w β c3 dY S=>?_) (fun ac w β c3 dY S=>?_)
 ·refine S.aI 16 (.cons (b6 (S.arg bs) k Tryz.underlying64) (.cons (cz (S.arg bs) 3 k 0 (aa (el t k).page)) .nil)) ((el t k).page==page) (fun ac w β dZ hA S=>?_) (fun ac w β dZ hA S=>?_)
  ·refine S.go 4 .nil fun ac w β S=>S.iL (α:=Int) (x:=(k:Int)) (p:=()) (F:=ab) ⟨by omega,by omega⟩ (fun b h=>False.elim h) (fun b h=>False.elim h) (d:=23) fun ac w N nW pK S up gE d17=>?_
   replace ao:=ao.up up
   clear up d17
   refine S.k7 (α:=Int) ao gE.ak (fun _ _ h=>h) (by':=8) (d:=24) (lx:=acc.length) (ly:=1) rfl rfl (show _<=4194304 by simp only [List.length_append,List.length_cons,List.length_nil];omega) fun ac w N dg hq S up fU d22=>?_
   clear up d22
   refine S.ge 9 (.cons (cg (k:Int) 1) .nil) f8 fun ac w β S=>eT.of (t.length-(k+1)) _ _ (by omega) ⟨k+1,(acc++[(k:Int)]),dg,hq,_,_,_,rfl,?_,?_,S.z,fU⟩
   ·exact cO
   ·clear S;(first|(rw [mq (by first|assumption|(simp [*];done)|(simp;omega)),bt];done)|(rw [mo (by first|assumption|(simp [*];done)|(simp;omega)),bt];done)|(rw [mq (by simp_all<;>fail),bt];done)|(rw [mo (by simp_all<;>fail),bt];done))
  refine S.ge 9 (.cons (cg (k:Int) 1) .nil) f8 fun ac w β S=>eT.of (t.length-(k+1)) _ _ (by omega) ⟨k+1,acc,bL,cW,_,_,_,rfl,?_,?_,S.z,ao⟩
  ·exact cO
  ·clear S;(first|(rw [mq (by first|assumption|(simp [*];done)|(simp;omega)),bt];done)|(rw [mo (by first|assumption|(simp [*];done)|(simp;omega)),bt];done)|(rw [mq (by simp_all<;>fail),bt];done)|(rw [mo (by simp_all<;>fail),bt];done))
 refine S.bq 13 .nil [R acc.length bL.1] fun ac w β S=>?_
 exact cx S (show gv t page=acc by clear S;(unfold gv;rw [bt,show t.length=k by omega])) rfl ao
theorem Tv {p:Prop} (h:p:=by clear S;(unfold j6;(repeat' split)<;>first|rfl|(exfalso;omega)|(exfalso;simp_all;done))):p:=h
theorem Zw (w0:World) (k:bQ) (ej:fm) (hk:bT w0 k ej) (page:Int):Calls Tryz.prog 173 [GT.val k ej,aa page].toArray w0 (dw ab w0 (j6 k page:bQ)):=by
 refine Calls.run ab Tryz.func173 ?_
 intro ac β S
 have qU:k.known.length<=4194304:=af.le (er.known (d:=k) hk)
 have qV:k.aY.length<=4194304:=af.le (er.aY (d:=k) hk)
 refine S.go 9 .nil fun ac w β S=>S.cN (r:=k) (d:=6) (Di w k ej (S.rd (S.arg hk))) fun ac w N ae br S up aD d4=>?_
 clear up d4
 obtain⟨dO,eX,bJ,bE,_,_,d11⟩:=tV aD
 refine S.bb 11 (.cons (aE fun w hw=>Hl w k ae (bN (show GT.rd b7 _ _ k ae from⟨bJ.ak,bE.ak⟩) hw) page) .nil) (decide ((0<=page/\page<k.known.length)/\page<k.aY.length)) (fun ac w β dZ S=>?_) (fun ac w β dZ S=>?_)
 ·have hA:=of_decide_eq_true dZ
  refine S.go 7 (.cons (cp bJ.ak page Tryz.underlying39) .nil) fun ac w β S=>S.fM (α:=Bool) bJ (t:=4) (k:=page.toNat) (j:=0) (off:=ae.known.1.off+page.toNat*1) (v:=B false) (y:=false) (q:=()) (fun _ _ _=>⟨ab,trivial,fun _ h=>False.elim h⟩) fun w N pK cG S up c4 d17 ap2 agx=>?_
  have d20:=d17 _ (J.symm d11) (fun b _ h=>False.elim h) bE.sub
  replace bE:=bE.bw (J.symm d11) up
  clear up d17 bJ agx
  have aoX:(k.known.set page.toNat false).length=k.known.length:=List.length_set
  replace S:=S.z (σ':=⟨[(1,.v (aa page)),(2,.p 0 0),(4,.p 1 0),(13,.v (bg ae.known.1.b (ae.known.1.off+page.toNat*1)))],[[R k.known.length ae.known.1,R k.aY.length ae.aY.1],ck bQ]⟩)
  replace S:=S.cast (σ':=⟨[(1,.v (aa page)),(2,.p 0 0),(4,.p 1 0),(13,.v (bg ae.known.1.b (ae.known.1.off+page.toNat*1)))],[[R (k.known.set page.toNat false).length ae.known.1,R k.aY.length ae.aY.1],ck bQ]⟩) (by rw [show(k.known.set page.toNat false).length=k.known.length by omega])
  refine S.is fun S=>?_
  refine S.go 2 .nil fun ac w β S=>?_
  refine dI ?_
  refine S.dP (f:=6) 5 (by kernel_rfl) (by kernel_rfl) fun w S=>?_
  refine S.hm 3 [0,1,2] [] [(15,.v (R k.aY.length ae.aY.1)),(16,.v (aa page))] .nil fun ac S=>?_
  refine S.iI 3 [] [(17,.v (GT.val (⟨-1,0⟩:aQ) ()))] 2 [] (.cons (aE fun w hw=>nz w) .nil) fun ac w β S=>?_
  refine S.a9 4 [4] [] [(18,.v (bg ae.aY.1.b (ae.aY.1.off+page.toNat*2)))] (.cons (cp bE.ak page Tryz.underlying64) .nil) fun ac S=>?_
  refine ar.one (i:=5) (by kernel_rfl) ?_
  have amz:ea (el k.aY page.toNat):=(af.el bE.ak page.toNat (by omega))
  refine id (S.y1 (α:=aQ) bE (t:=111) (k:=page.toNat) (j:=0) (off:=ae.aY.1.off+page.toNat*2) (v:=GT.val (⟨-1,0⟩:aQ) ()) (y:=(⟨-1,0⟩:aQ)) (q:=()) (fun _ _ _=>⟨ab,(show ea ⟨-1,0⟩ from⟨⟨by decide,by decide⟩,⟨by decide,by decide⟩⟩),fun _ h=>False.elim h⟩) fun w N mE kg S up ba d26 ap5 agH=>?_)
  refine ar.last (by kernel_rfl) ?_
  have d29:=d26 _ (J.symm d20) (fun b _ h=>False.elim h) c4.sub
  replace c4:=c4.bw (J.symm d20) up
  clear up d26 bE agH
  have TJ:(k.aY.set page.toNat (⟨-1,0⟩:aQ)).length=k.aY.length:=List.length_set
  replace S:=S.z (σ':=⟨[(2,.p 0 0),(4,.p 1 0),(17,.v (GT.val (⟨-1,0⟩:aQ) ())),(18,.v (bg ae.aY.1.b (ae.aY.1.off+page.toNat*2)))],[[R (k.known.set page.toNat false).length ae.known.1,R k.aY.length ae.aY.1],ck bQ]⟩)
  replace S:=S.cast (σ':=⟨[(2,.p 0 0),(4,.p 1 0),(17,.v (GT.val (⟨-1,0⟩:aQ) ())),(18,.v (bg ae.aY.1.b (ae.aY.1.off+page.toNat*2)))],[[R (k.known.set page.toNat false).length ae.known.1,R (k.aY.set page.toNat (⟨-1,0⟩:aQ)).length ae.aY.1],ck bQ]⟩) (by rw [show(k.aY.set page.toNat (⟨-1,0⟩:aQ)).length=k.aY.length by omega])
  refine ar.done (by kernel_rfl) ?_ _
  refine S.ex fun S=>?_
  refine S.bq 8 .nil [GT.val (⟨(k.known.set page.toNat false),(k.aY.set page.toNat (⟨-1,0⟩:aQ))⟩:bQ) (⟨(ae.known.1,cG),(ae.aY.1,kg)⟩:fm)] fun ac w β S=>?_
  have lY:=l4 (x:=(⟨(k.known.set page.toNat false),(k.aY.set page.toNat (⟨-1,0⟩:aQ))⟩:bQ)) (p:=(⟨(ae.known.1,cG),(ae.aY.1,kg)⟩:fm)) c4 ba d29
  exact cx S (show j6 k page=(⟨(k.known.set page.toNat false),(k.aY.set page.toNat (⟨-1,0⟩:aQ))⟩:bQ) from Tv) rfl lY
 have uU:=of_decide_eq_false dZ
 refine S.bq 10 .nil [GT.val k ae] fun ac w β S=>?_
 have gw:=l4 (x:=k) (p:=ae) bJ bE d11
 exact cx S (show j6 k page=k from Tv) rfl gw
theorem Zx (w0:World) (k:bQ) (ej:fm) (hk:bT w0 k ej) (inner:List aQ) (jc:aC aQ) (k0:bT w0 inner jc) (page:Int):Calls Tryz.prog 322 [GT.val k ej,R inner.length jc.1,aa page].toArray w0 (dw ab w0 (nD k inner page:bQ)):=by
 refine Calls.run ab Tryz.func322 ?_
 intro ac β S
 have qU:k.known.length<=4194304:=af.le (er.known (d:=k) hk)
 have qV:k.aY.length<=4194304:=af.le (er.aY (d:=k) hk)
 have AT:inner.length<=4194304:=af.le k0
 refine S.go 9 .nil fun ac w β S=>S.cN (r:=k) (d:=10) (Di w k ej (S.rd (S.arg hk))) fun ac w N ae br S up aD d4=>?_
 clear up d4
 obtain⟨dO,eX,bJ,bE,_,_,d11⟩:=tV aD
 refine S.go 7 .nil fun ac w β S=>S.cN (r:=gv inner page) (d:=13) (ZO w inner jc (S.rd (S.arg k0)) page) fun ac w N jK gb S up c4 d15=>?_
 have d16:=J.w d15 bJ.sub
 have d17:=J.w d15 bE.sub
 replace bJ:=bJ.up up
 replace bE:=bE.up up
 clear up d15
 refine S.go 10 .nil fun ac w β S=>?_
 refine dc (fun a5 ac w=>∃(i:Nat) (iB:List Bool) (c9:List aQ) (jZ:_) (ko:_) (dd:_) (fD:_) (u:_) (N:_) (β:_),a5=(gv inner page).length-i/\(i<=(gv inner page).length)/\((⟨iB,c9⟩:bQ)=((gv inner page).take i).foldl j6 k)/\aj Tryz.prog Tryz.f322.ntmps w0 ab u N β ⟨[(3,.p 0 0),(6,.p 1 0),(7,.v (R (gv inner page).length jK.1)),(8,.v (aa (i:Int)))],[[R iB.length jZ.1,R c9.length dd.1],ck bQ]⟩ ac w/\ad w0 ab u N ko iB jZ/\ad w0 ab u N fD c9 dd/\ad w0 ab u N gb (gv inner page) jK/\J ko fD/\J ko gb/\J fD gb) _ ⟨0,k.known,k.aY,ae.known,dO,ae.aY,eX,_,_,_,rfl,cv,(by rfl),S.z,bJ,bE,c4,d11,d16,d17⟩ ?_
 clear S c4 bJ bE
 rintro f27 a5 AM ac w ⟨i,iB,c9,jZ,ko,dd,fD,u,N,β,rfl,hi,bf,S,fz,ba,c4,d24,d25,d26⟩
 refine S.rs fun S=>?_
 have aeX:(gv inner page).length<=inner.length:=yu _ _
 refine S.aI 9 .nil (decide ((i:Int)<((gv inner page).length:Int))) (fun ac w β i_ nL S=>?_) (fun ac w β i_ nL S=>?_)
 ·refine S.go 5 .nil fun ac w β S=>?_
  refine dI ?_
  refine S.dP (f:=7) 6 (by kernel_rfl) (by kernel_rfl) fun w S=>?_
  refine S.hm 2 [0,1,2,3,4] [] [(20,.v (GT.val (⟨iB,c9⟩:bQ) (⟨jZ,dd⟩:fm))),(24,.v (aa (el (gv inner page) i)))] (.cons (b6 c4.ak i Tryz.underlying38) (.cons (cj c4.ak 3 i) .nil)) fun ac S=>?_
  refine ar.one (i:=5) (by kernel_rfl) ?_
  refine id (S.dz 25 (Zw w (⟨iB,c9⟩:bQ) (⟨jZ,dd⟩:fm) (S.rd (show GT.rd b7 _ _ (⟨iB,c9⟩:bQ) (⟨jZ,dd⟩:fm) from⟨fz.ak,ba.ak⟩)) (el (gv inner page) i)) fun ac w N kN mF S up gw d34=>?_)
  refine ar.next S up (by kernel_rfl) ?_
  have d37:=J.w d34 c4.sub
  replace fz:=fz.up up
  replace ba:=ba.up up
  replace c4:=c4.up up
  clear up d34
  obtain⟨k8,n3,wb,kd,FK,Ni,d44⟩:=tV gw
  refine S.c9 6 [] [] 2 [(0,[R (j6 (⟨iB,c9⟩:bQ) (el (gv inner page) i)).known.length kN.known.1,R (j6 (⟨iB,c9⟩:bQ) (el (gv inner page) i)).aY.length kN.aY.1])] .nil fun ac w β S=>?_
  refine ar.done (by kernel_rfl) ?_ _
  refine S.ex fun S=>?_
  refine S.ge 7 (.cons (cg (i:Int) 1) .nil) f27 fun ac w β S=>AM.of ((gv inner page).length-(i+1)) _ _ (by omega) ⟨i+1,(j6 (⟨iB,c9⟩:bQ) (el (gv inner page) i)).known,(j6 (⟨iB,c9⟩:bQ) (el (gv inner page) i)).aY,kN.known,k8,kN.aY,n3,_,_,_,rfl,?_,?_,S.z,wb,kd,c4,d44,(J.part (J.symm d37) FK),(J.part (J.symm d37) Ni)⟩
  ·exact cO
  ·clear S;(rw [ta (by omega),←bf])
 refine S.bq 13 .nil [GT.val (⟨iB,c9⟩:bQ) (⟨jZ,dd⟩:fm)] fun ac w β S=>?_
 have ey:=l4 (x:=(⟨iB,c9⟩:bQ)) (p:=(⟨jZ,dd⟩:fm)) fz ba d24
 exact cx S (show nD k inner page=(⟨iB,c9⟩:bQ) by clear S;(unfold nD;rw [Q8 (by omega)] at bf;exact bf.symm)) rfl ey
theorem PO (w0:World) (b:List aG) (bB:aC aG) (hb:bT w0 b bB) (host:Int) (qT:a_ host):Calls Tryz.prog 323 [R b.length bB.1,aa host].toArray w0 (dw ab w0 (g3 b host:List aG)):=by
 refine Calls.run ab Tryz.func323 ?_
 intro ac β S
 have kD:b.length<=4194304:=af.le hb
 have aew:=qT.lo;have aec:=qT.hi
 refine S.go 7 .nil fun ac w β S=>S.gR (α:=aG) (d:=7) fun ac w N ae br S up aD d4=>?_
 clear up d4
 refine S.go 10 .nil fun ac w β S=>?_
 refine dc (fun a5 ac w=>∃(k:Nat) (acc:List aG) (bL:_) (cW:_) (u:_) (N:_) (β:_),a5=b.length-k/\(k<=b.length)/\(acc=jB (b.take k) (fun e=>nG e host))/\aj Tryz.prog Tryz.f323.ntmps w0 ab u N β ⟨[(0,.v (R b.length bB.1)),(1,.v (aa host)),(5,.v (R acc.length bL.1)),(6,.v (aa (k:Int)))],[]⟩ ac w/\ad w0 ab u N cW acc bL) _ ⟨0,([]:List aG),ae,br,_,_,_,rfl,cv,(by rfl),S.z,aD⟩ ?_
 clear S aD
 rintro f8 a5 eT ac w ⟨k,acc,bL,cW,u,N,β,rfl,hk,bt,S,ao⟩
 refine S.rs fun S=>?_
 have gD:acc.length<=k:=by rw [bt];exact Nat.le_trans (wK _ _) (List.length_take_le _ _)
 refine S.aI 9 .nil (decide ((k:Int)<(b.length:Int))) (fun ac w β c3 dY S=>?_) (fun ac w β c3 dY S=>?_)
 ·refine S.aI 16 (.cons (b6 (S.arg hb) k Tryz.underlying29) (.cons (cz (S.arg hb) 3 k 2 (aa (el b k).host)) .nil)) ((el b k).host != host) (fun ac w β dZ hA S=>?_) (fun ac w β dZ hA S=>?_)
  ·refine S.go 7 (.cons (b6 (S.arg hb) k Tryz.underlying29) (.cons (dy (S.arg hb) 138 k) .nil)) fun ac w β S=>S.iL (α:=aG) (x:=(el b k)) (p:=()) (F:=ab) (af.el (S.arg hb) k (by omega)) (fun b h=>False.elim h) (fun b h=>False.elim h) (d:=26) fun ac w N nW pK S up gE d17=>?_
   replace ao:=ao.up up
   clear up d17
   refine S.k7 (α:=aG) ao gE.ak (fun _ _ h=>h) (by':=32) (d:=27) (lx:=acc.length) (ly:=1) rfl rfl (show _<=4194304 by simp only [List.length_append,List.length_cons,List.length_nil];omega) fun ac w N dg hq S up fU d22=>?_
   clear up d22
   refine S.ge 9 (.cons (cg (k:Int) 1) .nil) f8 fun ac w β S=>eT.of (b.length-(k+1)) _ _ (by omega) ⟨k+1,(acc++[(el b k)]),dg,hq,_,_,_,rfl,?_,?_,S.z,fU⟩
   ·exact cO
   ·clear S;(first|(rw [sJ (by omega) (UA (by assumption)),bt];done)|(rw [pJ (by omega) (Uz (by assumption)),bt];done))
  refine S.ge 9 (.cons (cg (k:Int) 1) .nil) f8 fun ac w β S=>eT.of (b.length-(k+1)) _ _ (by omega) ⟨k+1,acc,bL,cW,_,_,_,rfl,?_,?_,S.z,ao⟩
  ·exact cO
  ·clear S;(first|(rw [sJ (by omega) (UA (by assumption)),bt];done)|(rw [pJ (by omega) (Uz (by assumption)),bt];done))
 refine S.bq 13 .nil [R acc.length bL.1] fun ac w β S=>?_
 exact cx S (show g3 b host=acc by clear S;(rw [bt,fb (by omega)];rfl)) rfl ao
theorem TF {p:Prop} (h:p:=by clear S;((have Js:k=(el h.I m.toNat).U.length:=(by omega));subst Js;subst_vars;unfold gK;simp only [dS (show m.toNat<h.I.length by omega),List.set_set];first|(rw [DI (by assumption),DI (by assumption)];done)|(rw [DH (by assumption),DH (by assumption)];done))):p:=h
theorem Hm (w0:World) (h:ah) (ai:cb) (F:au) (a1:GT.own b7 F w0 h ai) (eM:∀b,F b->b<w0.heap.size) (m:Int) (page:Int) (s:aQ) (hs:ea s) (ft:(0<=m/\m<h.I.length)/\(el h.I m.toNat).tables.length=(el h.I m.toNat).U.length/\(0<=page/\page<=7)/\(el h.I m.toNat).outer.length=8):Calls Tryz.prog 266 [GT.val h ai,aa m,aa page,GT.val s ()].toArray w0 (rD F ai w0 (gK h m page s:ah)):=by
 refine Calls.run F Tryz.func266 ?_
 intro ac β S
 have eb:ad w0 F w0 (fc w0.heap.size) F h ai:=⟨a1,eM,fun b hb=> .inr hb⟩
 obtain⟨cc,e4,e5,dT,bK,bY,bP,bo,_,_,_,_,d13,d14,d15,d16,d17,d18⟩:=jL eb
 have i19:a_ (el (el h.I m.toNat).outer page.toNat).page:=(ea.page (d:=(el (el h.I m.toNat).outer page.toNat)) (af.el (aU.outer (d:=(el h.I m.toNat)) (af.el bY.ak m.toNat (by omega))) page.toNat (by omega)))
 refine S.go 36 (.cons (cp bY.ak m Tryz.underlying28) (.cons (dy bY.ak 74 m.toNat) (.cons (cp (aU.outer (d:=(el h.I m.toNat)) (af.el bY.ak m.toNat (by omega))) page Tryz.underlying64) (.cons (cz (aU.outer (d:=(el h.I m.toNat)) (af.el bY.ak m.toNat (by omega))) 3 page.toNat 0 (aa (el (el h.I m.toNat).outer page.toNat).page)) .nil)))) fun ac w β S=>?_
 refine dc (fun a5 ac w=>∃(k:Nat) (X:List aO) (c5:_) (oR:_) (u:_) (N:_) (β:_),a5=(el h.I m.toNat).U.length-k/\(k<=(el h.I m.toNat).U.length)/\(X=h.I.set m.toNat {el h.I m.toNat with tables:=p4 (el h.I m.toNat).tables (el h.I m.toNat).U page k})/\aj Tryz.prog Tryz.f266.ntmps w0 F u N β ⟨[(1,.v (aa m)),(2,.v (aa page)),(4,.p 0 0),(7,.p 1 0),(8,.p 2 0),(9,.p 3 0),(10,.v (aa (el (el h.I m.toNat).outer page.toNat).page)),(11,.v (aa (k:Int)))],[[R h.mem.length ai.mem.1,R X.length c5.1,R h.buf.length ai.buf.1,R h.ag.length ai.ag.1],GT.cells s (),ck ah,GT.cells (el X m.toNat) (c5.2 m.toNat)]⟩ ac w/\ad w0 F u N oR X c5/\ad w0 F u N cc h.mem ai.mem/\ad w0 F u N e5 h.buf ai.buf/\ad w0 F u N dT h.ag ai.ag/\de ai.I.2 c5.2/\J oR cc/\J oR e5/\J oR dT) _ ⟨0,h.I,ai.I,e4,_,_,_,rfl,cv,(by exact y3.symm),S.z,bY,bK,bP,bo,(de.g0 _),(J.symm d13),d16,d17⟩ ?_
 clear S bo bK bY bP
 rintro f27 a5 AM ac w ⟨k,X,c5,oR,u,N,β,rfl,hk,fP,S,fh,bK,bP,bo,p6,d23,d24,d25⟩
 refine S.rs fun S=>?_
 obtain⟨hl,he⟩:=y4 fP (show m.toNat<h.I.length by omega) (FY _ _ _ _)
 have Xq:(el X m.toNat).tables.length<=4194304:=af.le (aU.tables (d:=(el X m.toNat)) (af.el fh.ak m.toNat (by omega)))
 refine S.aI 10 .nil (decide ((k:Int)<((el X m.toNat).tables.length:Int))) (fun ac w β lk xP S=>?_) (fun ac w β lk xP S=>?_)
 ·refine S.go 5 .nil fun ac w β S=>?_
  refine dI ?_
  refine S.dP (f:=18) 17 (by kernel_rfl) (by kernel_rfl) fun w S=>?_
  refine S.hm 3 [0,1,2,3,4,5,6,7,8,9,10,11,12,13,14] [] [(31,.v (R (el X m.toNat).tables.length (c5.2 m.toNat).tables.1)),(32,.v (aa (k:Int))),(37,.v (GT.val (el (el X m.toNat).tables k) ((c5.2 m.toNat).tables.2 k))),(43,.v (R (el (el X m.toNat).U k).live.length ((c5.2 m.toNat).U.2 k).live.1)),(44,.v (aa page))] (.cons (b6 (aU.tables (d:=(el X m.toNat)) (af.el fh.ak m.toNat (by omega))) k Tryz.underlying72) (.cons (dy (aU.tables (d:=(el X m.toNat)) (af.el fh.ak m.toNat (by omega))) 165 k) (.cons (b6 (aU.U (d:=(el X m.toNat)) (af.el fh.ak m.toNat (by omega))) k Tryz.underlying71) (.cons (cz (aU.U (d:=(el X m.toNat)) (af.el fh.ak m.toNat (by omega))) 64 k 4 (R (el (el X m.toNat).U k).live.length ((c5.2 m.toNat).U.2 k).live.1)) .nil)))) fun ac S=>?_
  refine ar.one (i:=15) (by kernel_rfl) ?_
  refine id (S.dz 45 (Zx w (el (el X m.toNat).tables k) ((c5.2 m.toNat).tables.2 k) (S.rd (af.el (aU.tables (d:=(el X m.toNat)) (af.el fh.ak m.toNat (by omega))) k (by omega))) (el (el X m.toNat).U k).live ((c5.2 m.toNat).U.2 k).live (S.rd (az.live (d:=(el (el X m.toNat).U k)) (af.el (aU.U (d:=(el X m.toNat)) (af.el fh.ak m.toNat (by omega))) k (by omega)))) page) fun ac w N fZ qy S up ie d35=>?_)
  refine ar.next S up (by kernel_rfl) ?_
  have d36:=J.w d35 fh.sub
  have d37:=J.w d35 bK.sub
  have d38:=J.w d35 bP.sub
  have d39:=J.w d35 bo.sub
  replace fh:=fh.up up
  replace bK:=bK.up up
  replace bP:=bP.up up
  replace bo:=bo.up up
  clear up d35
  refine S.a9 16 [16] [] [(46,.v (bg (c5.2 m.toNat).tables.1.b ((c5.2 m.toNat).tables.1.off+k*2)))] (.cons (b6 (aU.tables (d:=(el X m.toNat)) (af.el fh.ak m.toNat (by omega))) k Tryz.underlying72) .nil) fun ac S=>?_
  refine ar.one (i:=17) (by kernel_rfl) ?_
  obtain⟨alx,qk,wD,Xx⟩:=Q6 fh (k:=m.toNat) (show m.toNat<X.length by omega)
  have apd:=af.le qk.ak
  have Lc:=qk.sub
  refine id (S.kO (α:=bQ) qk (t:=165) (k:=k) (off:=(c5.2 m.toNat).tables.1.off+k*2) ie (J.symm (J.symm (J.part d36 wD))) fun w N CO Vm S up nR d49 ajF T7=>?_)
  refine ar.last (by kernel_rfl) ?_
  have d52:=d49 _ (J.symm (J.part d23 wD)) d37 bK.sub
  have d53:=d49 _ (J.symm (J.part d24 wD)) d38 bP.sub
  have d54:=d49 _ (J.symm (J.part d25 wD)) d39 bo.sub
  replace bK:=bK.bw (J.symm (J.part d23 wD)) up
  replace bP:=bP.bw (J.symm (J.part d24 wD)) up
  replace bo:=bo.bw (J.symm (J.part d25 wD)) up
  clear d49 qk
  obtain⟨Mf,kI,OT,te⟩:=Xx _ _ _ _ _ qy up nR ajF d36 (by show [R _ _]=[R _ _];rw [List.length_set]) (fun b h=>T7 b (Lc b h))
  have Is:=de.iK p6 te
  clear up nR T7
  have TM:(X.set m.toNat ({el X m.toNat with tables:=((el X m.toNat).tables.set k (nD (el (el X m.toNat).tables k) (el (el X m.toNat).U k).live page))})).length=X.length:=List.length_set
  obtain⟨uv,RN⟩:∃z,z=X.set m.toNat ({el X m.toNat with tables:=((el X m.toNat).tables.set k (nD (el (el X m.toNat).tables k) (el (el X m.toNat).U k).live page))}):=⟨_,rfl⟩
  rw [←RN] at kI OT TM
  obtain⟨apl,amI⟩:=y4 RN (show m.toNat<X.length by omega) List.length_set
  replace S:=S.z (σ':=⟨[(1,.v (aa m)),(2,.v (aa page)),(4,.p 0 0),(7,.p 1 0),(8,.p 2 0),(9,.p 3 0),(10,.v (aa (el (el h.I m.toNat).outer page.toNat).page)),(11,.v (aa (k:Int))),(45,.v (GT.val (nD (el (el X m.toNat).tables k) (el (el X m.toNat).U k).live page) fZ)),(46,.v (bg (c5.2 m.toNat).tables.1.b ((c5.2 m.toNat).tables.1.off+k*2)))],[[R h.mem.length ai.mem.1,R X.length c5.1,R h.buf.length ai.buf.1,R h.ag.length ai.ag.1],GT.cells s (),ck ah,GT.cells (el X m.toNat) (c5.2 m.toNat)]⟩)
  replace S:=S.cast (σ':=⟨[(1,.v (aa m)),(2,.v (aa page)),(4,.p 0 0),(7,.p 1 0),(8,.p 2 0),(9,.p 3 0),(10,.v (aa (el (el h.I m.toNat).outer page.toNat).page)),(11,.v (aa (k:Int))),(45,.v (GT.val (nD (el (el X m.toNat).tables k) (el (el X m.toNat).U k).live page) fZ)),(46,.v (bg (c5.2 m.toNat).tables.1.b ((c5.2 m.toNat).tables.1.off+k*2)))],[[R h.mem.length ai.mem.1,R uv.length c5.1,R h.buf.length ai.buf.1,R h.ag.length ai.ag.1],GT.cells s (),ck ah,GT.cells (el X m.toNat) (c5.2 m.toNat)]⟩) (by rw [show uv.length=X.length by omega])
  replace S:=S.z (σ':=⟨[(1,.v (aa m)),(2,.v (aa page)),(4,.p 0 0),(7,.p 1 0),(8,.p 2 0),(9,.p 3 0),(10,.v (aa (el (el h.I m.toNat).outer page.toNat).page)),(11,.v (aa (k:Int))),(45,.v (GT.val (nD (el (el X m.toNat).tables k) (el (el X m.toNat).U k).live page) fZ)),(46,.v (bg (c5.2 m.toNat).tables.1.b ((c5.2 m.toNat).tables.1.off+k*2)))],[[R h.mem.length ai.mem.1,R uv.length c5.1,R h.buf.length ai.buf.1,R h.ag.length ai.ag.1],GT.cells s (),ck ah,GT.cells (el X m.toNat) (c5.2 m.toNat)]⟩)
  have akl:GT.cells (el uv m.toNat) ((c5.1,Mf).2 m.toNat)=GT.cells (el X m.toNat) (c5.2 m.toNat):=OT m.toNat
  replace S:=S.cast (σ':=⟨[(1,.v (aa m)),(2,.v (aa page)),(4,.p 0 0),(7,.p 1 0),(8,.p 2 0),(9,.p 3 0),(10,.v (aa (el (el h.I m.toNat).outer page.toNat).page)),(11,.v (aa (k:Int))),(45,.v (GT.val (nD (el (el X m.toNat).tables k) (el (el X m.toNat).U k).live page) fZ)),(46,.v (bg (c5.2 m.toNat).tables.1.b ((c5.2 m.toNat).tables.1.off+k*2)))],[[R h.mem.length ai.mem.1,R uv.length c5.1,R h.buf.length ai.buf.1,R h.ag.length ai.ag.1],GT.cells s (),ck ah,GT.cells (el uv m.toNat) ((c5.1,Mf).2 m.toNat)]⟩) (by rw [akl])
  refine ar.done (by kernel_rfl) ?_ _
  refine S.ex fun S=>?_
  refine S.ge 7 (.cons (cg (k:Int) 1) .nil) f27 fun ac w β S=>AM.of ((el h.I m.toNat).U.length-(k+1)) _ _ (by omega) ⟨k+1,uv,(c5.1,Mf),(Or oR CO),_,_,_,rfl,?_,?_,S.z,kI,bK,bP,bo,Is,(J.symm (J.symm (J.or d23 (J.symm d52)))),(J.symm (J.symm (J.or d24 (J.symm d53)))),(J.symm (J.symm (J.or d25 (J.symm d54))))⟩
  ·exact cO
  ·clear S;(subst_vars;rw [List.set_set];simp only [dS (show m.toNat<h.I.length by omega),p4,VT _ _ _ (Nat.le_refl _)])
 refine S.aI 13 .nil ((el (el h.I m.toNat).outer page.toNat).page != (-1)) (fun ac w β u1 xU S=>?_) (fun ac w β u1 xU S=>?_)
 ·refine S.go 6 .nil fun ac w β S=>S.cN (r:=g3 h.buf (el (el h.I m.toNat).outer page.toNat).page) (d:=52) (PO w h.buf ai.buf (S.rd bP.ak) (el (el h.I m.toNat).outer page.toNat).page i19) fun ac w N qo N9 S up ho d71=>?_
  have d72:=J.w d71 fh.sub
  have d73:=J.w d71 bK.sub
  replace fh:=fh.up up
  replace bK:=bK.up up
  replace bP:=bP.up up
  replace bo:=bo.up up
  clear up d71
  refine S.go 8 .nil fun ac w β S=>S.cN (r:=g3 h.ag (el (el h.I m.toNat).outer page.toNat).page) (d:=57) (PO w h.ag ai.ag (S.rd bo.ak) (el (el h.I m.toNat).outer page.toNat).page i19) fun ac w N yR WE S up l0 d79=>?_
  have d80:=J.w d79 fh.sub
  have d81:=J.w d79 bK.sub
  have d83:=J.w d79 ho.sub
  replace fh:=fh.up up
  replace bK:=bK.up up
  replace bo:=bo.up up
  replace ho:=ho.up up
  clear up d79
  obtain⟨WG,wh,y0,XI⟩:=Q5 fh (k:=m.toNat) (show m.toNat<X.length by omega)
  have apu:=af.le wh.ak
  have agW:=wh.sub
  have amM:ea (el (el X m.toNat).outer page.toNat):=(af.el wh.ak page.toNat (by omega))
  refine S.go 11 (.cons (cp (aU.outer (d:=(el X m.toNat)) (af.el fh.ak m.toNat (by omega))) page Tryz.underlying64) .nil) fun ac w β S=>S.fM (α:=aQ) wh (t:=111) (k:=page.toNat) (j:=0) (off:=(c5.2 m.toNat).outer.1.off+page.toNat*2) (v:=GT.val s ()) (y:=s) (q:=()) (fun _ _ _=>⟨ab,hs,fun _ h=>False.elim h⟩) fun w N n4 Vs S up l1 d94 ajM Ud=>?_
  have d97:=d94 _ (J.symm (J.part d23 y0)) (fun b _ h=>False.elim h) bK.sub
  have d98:=d94 _ (J.symm (J.part d72 y0)) (fun b _ h=>False.elim h) ho.sub
  have d99:=d94 _ (J.symm (J.part d80 y0)) (fun b _ h=>False.elim h) l0.sub
  replace bK:=bK.bw (J.symm (J.part d23 y0)) up
  replace ho:=ho.bw (J.symm (J.part d72 y0)) up
  replace l0:=l0.bw (J.symm (J.part d80 y0)) up
  clear d94 wh
  obtain⟨BI,sj,OM,abP⟩:=XI _ _ _ _ _ ab up l1 ajM (fun b _ h=>False.elim h) (by show [R _ _]=[R _ _];rw [List.length_set]) (fun b h=>Ud b (agW b h))
  have abQ:=de.iK p6 abP
  clear up l1 Ud
  have afr:(X.set m.toNat ({el X m.toNat with outer:=((el X m.toNat).outer.set page.toNat s)})).length=X.length:=List.length_set
  obtain⟨n8,Rz⟩:∃z,z=X.set m.toNat ({el X m.toNat with outer:=((el X m.toNat).outer.set page.toNat s)}):=⟨_,rfl⟩
  rw [←Rz] at sj OM afr
  obtain⟨aoC,amv⟩:=Cn Rz (show m.toNat<X.length by omega) List.length_set
  replace S:=S.z (σ':=⟨[(1,.v (aa m)),(4,.p 0 0),(8,.p 2 0),(9,.p 3 0),(62,.v (GT.val s ())),(63,.v (bg (c5.2 m.toNat).outer.1.b ((c5.2 m.toNat).outer.1.off+page.toNat*2)))],[[R h.mem.length ai.mem.1,R X.length c5.1,R (g3 h.buf (el (el h.I m.toNat).outer page.toNat).page).length qo.1,R (g3 h.ag (el (el h.I m.toNat).outer page.toNat).page).length yR.1],GT.cells s (),ck ah,GT.cells (el X m.toNat) (c5.2 m.toNat)]⟩)
  replace S:=S.cast (σ':=⟨[(1,.v (aa m)),(4,.p 0 0),(8,.p 2 0),(9,.p 3 0),(62,.v (GT.val s ())),(63,.v (bg (c5.2 m.toNat).outer.1.b ((c5.2 m.toNat).outer.1.off+page.toNat*2)))],[[R h.mem.length ai.mem.1,R n8.length c5.1,R (g3 h.buf (el (el h.I m.toNat).outer page.toNat).page).length qo.1,R (g3 h.ag (el (el h.I m.toNat).outer page.toNat).page).length yR.1],GT.cells s (),ck ah,GT.cells (el X m.toNat) (c5.2 m.toNat)]⟩) (by rw [show n8.length=X.length by omega])
  refine S.is fun S=>?_
  replace S:=S.z (σ':=⟨[(1,.v (aa m)),(4,.p 0 0),(8,.p 2 0),(9,.p 3 0),(62,.v (GT.val s ())),(63,.v (bg (c5.2 m.toNat).outer.1.b ((c5.2 m.toNat).outer.1.off+page.toNat*2)))],[[R h.mem.length ai.mem.1,R n8.length c5.1,R (g3 h.buf (el (el h.I m.toNat).outer page.toNat).page).length qo.1,R (g3 h.ag (el (el h.I m.toNat).outer page.toNat).page).length yR.1],GT.cells s (),ck ah,GT.cells (el X m.toNat) (c5.2 m.toNat)]⟩)
  have aki:GT.cells (el n8 m.toNat) ((c5.1,BI).2 m.toNat)=GT.cells (el X m.toNat) (c5.2 m.toNat):=OM m.toNat
  replace S:=S.cast (σ':=⟨[(1,.v (aa m)),(4,.p 0 0),(8,.p 2 0),(9,.p 3 0),(62,.v (GT.val s ())),(63,.v (bg (c5.2 m.toNat).outer.1.b ((c5.2 m.toNat).outer.1.off+page.toNat*2)))],[[R h.mem.length ai.mem.1,R n8.length c5.1,R (g3 h.buf (el (el h.I m.toNat).outer page.toNat).page).length qo.1,R (g3 h.ag (el (el h.I m.toNat).outer page.toNat).page).length yR.1],GT.cells s (),ck ah,GT.cells (el n8 m.toNat) ((c5.1,BI).2 m.toNat)]⟩) (by rw [aki])
  refine S.is fun S=>?_
  refine S.go 9 (.cons (cp sj.ak m Tryz.underlying28) .nil) fun ac w β S=>S.GX sj (α:=aO) (t:=74) (v:=GT.val (el n8 m.toNat) ((c5.1,BI).2 m.toNat)) (k:=m.toNat) (j:=0) (off:=c5.1.off+m.toNat*9) (y:=(el n8 m.toNat)) (q:=((c5.1,BI).2 m.toNat)) (Fy:=ab) (by omega) (Nat.le_of_ble_eq_true (by kernel_rfl)) (fun G fk _=>⟨G,fk,fun _ h=> .inl h⟩) (fun b _ h=>False.elim h) (fun b h=>False.elim h) (fun b h=>False.elim h) fun w N CF S up qi d114 VA EP=>?_
  obtain⟨dv,qi,abT⟩:∃dv:Nat->fj,ad w0 F _ _ CF (n8.set m.toNat (el n8 m.toNat)) ((c5.1,dv):aC aO)/\de (c5.1,BI).2 dv:=⟨_,qi,de.st rfl⟩
  have Ik:=de.iK abQ abT
  have d119:=d114 _ (J.symm (J.or d23 (J.symm d97))) (fun b _ h=>False.elim h) bK.sub
  have d120:=d114 _ (J.symm (J.or d72 (J.symm d98))) (fun b _ h=>False.elim h) ho.sub
  have d121:=d114 _ (J.symm (J.or d80 (J.symm d99))) (fun b _ h=>False.elim h) l0.sub
  replace bK:=bK.bw (J.symm (J.or d23 (J.symm d97))) up
  replace ho:=ho.bw (J.symm (J.or d72 (J.symm d98))) up
  replace l0:=l0.bw (J.symm (J.or d80 (J.symm d99))) up
  clear up d114 sj EP
  rw [y3] at qi
  refine S.bq 9 .nil [GT.val (⟨h.mem,n8,(g3 h.buf (el (el h.I m.toNat).outer page.toNat).page),(g3 h.ag (el (el h.I m.toNat).outer page.toNat).page)⟩:ah) (⟨ai.mem,(c5.1,dv),qo,yR⟩:cb)] fun ac w β S=>?_
  have Lf:=fi (x:=(⟨h.mem,n8,(g3 h.buf (el (el h.I m.toNat).outer page.toNat).page),(g3 h.ag (el (el h.I m.toNat).outer page.toNat).page)⟩:ah)) (p:=(⟨ai.mem,(c5.1,dv),qo,yR⟩:cb)) bK qi ho l0 d119 d73 d81 (J.symm d120) (J.symm d121) d83
  exact wu S (show gK h m page s=(⟨h.mem,n8,(g3 h.buf (el (el h.I m.toNat).outer page.toNat).page),(g3 h.ag (el (el h.I m.toNat).outer page.toNat).page)⟩:ah) from TF) rfl Lf Ik
 obtain⟨ak6,q6,tT,Xb⟩:=Q5 fh (k:=m.toNat) (show m.toNat<X.length by omega)
 have aoH:=af.le q6.ak
 have agl:=q6.sub
 have Dr:ea (el (el X m.toNat).outer page.toNat):=(af.el q6.ak page.toNat (by omega))
 refine S.go 10 (.cons (cp (aU.outer (d:=(el X m.toNat)) (af.el fh.ak m.toNat (by omega))) page Tryz.underlying64) .nil) fun ac w β S=>S.fM (α:=aQ) q6 (t:=111) (k:=page.toNat) (j:=0) (off:=(c5.2 m.toNat).outer.1.off+page.toNat*2) (v:=GT.val s ()) (y:=s) (q:=()) (fun _ _ _=>⟨ab,hs,fun _ h=>False.elim h⟩) fun w N CH Mk S up mx d133 M9 TY=>?_
 have d136:=d133 _ (J.symm (J.part d23 tT)) (fun b _ h=>False.elim h) bK.sub
 have d137:=d133 _ (J.symm (J.part d24 tT)) (fun b _ h=>False.elim h) bP.sub
 have d138:=d133 _ (J.symm (J.part d25 tT)) (fun b _ h=>False.elim h) bo.sub
 replace bK:=bK.bw (J.symm (J.part d23 tT)) up
 replace bP:=bP.bw (J.symm (J.part d24 tT)) up
 replace bo:=bo.bw (J.symm (J.part d25 tT)) up
 clear d133 q6
 obtain⟨BJ,tB,OO,ab1⟩:=Xb _ _ _ _ _ ab up mx M9 (fun b _ h=>False.elim h) (by show [R _ _]=[R _ _];rw [List.length_set]) (fun b h=>TY b (agl b h))
 have ab2:=de.iK p6 ab1
 clear up mx TY
 have afy:(X.set m.toNat ({el X m.toNat with outer:=((el X m.toNat).outer.set page.toNat s)})).length=X.length:=List.length_set
 obtain⟨n9,RC⟩:∃z,z=X.set m.toNat ({el X m.toNat with outer:=((el X m.toNat).outer.set page.toNat s)}):=⟨_,rfl⟩
 rw [←RC] at tB OO afy
 obtain⟨aoK,amw⟩:=Cn RC (show m.toNat<X.length by omega) List.length_set
 replace S:=S.z (σ':=⟨[(1,.v (aa m)),(4,.p 0 0),(8,.p 2 0),(9,.p 3 0),(62,.v (GT.val s ())),(63,.v (bg (c5.2 m.toNat).outer.1.b ((c5.2 m.toNat).outer.1.off+page.toNat*2)))],[[R h.mem.length ai.mem.1,R X.length c5.1,R h.buf.length ai.buf.1,R h.ag.length ai.ag.1],GT.cells s (),ck ah,GT.cells (el X m.toNat) (c5.2 m.toNat)]⟩)
 replace S:=S.cast (σ':=⟨[(1,.v (aa m)),(4,.p 0 0),(8,.p 2 0),(9,.p 3 0),(62,.v (GT.val s ())),(63,.v (bg (c5.2 m.toNat).outer.1.b ((c5.2 m.toNat).outer.1.off+page.toNat*2)))],[[R h.mem.length ai.mem.1,R n9.length c5.1,R h.buf.length ai.buf.1,R h.ag.length ai.ag.1],GT.cells s (),ck ah,GT.cells (el X m.toNat) (c5.2 m.toNat)]⟩) (by rw [show n9.length=X.length by omega])
 refine S.is fun S=>?_
 replace S:=S.z (σ':=⟨[(1,.v (aa m)),(4,.p 0 0),(8,.p 2 0),(9,.p 3 0),(62,.v (GT.val s ())),(63,.v (bg (c5.2 m.toNat).outer.1.b ((c5.2 m.toNat).outer.1.off+page.toNat*2)))],[[R h.mem.length ai.mem.1,R n9.length c5.1,R h.buf.length ai.buf.1,R h.ag.length ai.ag.1],GT.cells s (),ck ah,GT.cells (el X m.toNat) (c5.2 m.toNat)]⟩)
 have akj:GT.cells (el n9 m.toNat) ((c5.1,BJ).2 m.toNat)=GT.cells (el X m.toNat) (c5.2 m.toNat):=OO m.toNat
 replace S:=S.cast (σ':=⟨[(1,.v (aa m)),(4,.p 0 0),(8,.p 2 0),(9,.p 3 0),(62,.v (GT.val s ())),(63,.v (bg (c5.2 m.toNat).outer.1.b ((c5.2 m.toNat).outer.1.off+page.toNat*2)))],[[R h.mem.length ai.mem.1,R n9.length c5.1,R h.buf.length ai.buf.1,R h.ag.length ai.ag.1],GT.cells s (),ck ah,GT.cells (el n9 m.toNat) ((c5.1,BJ).2 m.toNat)]⟩) (by rw [akj])
 refine S.is fun S=>?_
 refine S.go 9 (.cons (cp tB.ak m Tryz.underlying28) .nil) fun ac w β S=>S.GX tB (α:=aO) (t:=74) (v:=GT.val (el n9 m.toNat) ((c5.1,BJ).2 m.toNat)) (k:=m.toNat) (j:=0) (off:=c5.1.off+m.toNat*9) (y:=(el n9 m.toNat)) (q:=((c5.1,BJ).2 m.toNat)) (Fy:=ab) (by omega) (Nat.le_of_ble_eq_true (by kernel_rfl)) (fun G fk _=>⟨G,fk,fun _ h=> .inl h⟩) (fun b _ h=>False.elim h) (fun b h=>False.elim h) (fun b h=>False.elim h) fun w N Ga S up EX d153 ap0 agr=>?_
 obtain⟨BO,EX,ab4⟩:∃BO:Nat->fj,ad w0 F _ _ Ga (n9.set m.toNat (el n9 m.toNat)) ((c5.1,BO):aC aO)/\de (c5.1,BJ).2 BO:=⟨_,EX,de.st rfl⟩
 have ab5:=de.iK ab2 ab4
 have d158:=d153 _ (J.symm (J.or d23 (J.symm d136))) (fun b _ h=>False.elim h) bK.sub
 have d159:=d153 _ (J.symm (J.or d24 (J.symm d137))) (fun b _ h=>False.elim h) bP.sub
 have d160:=d153 _ (J.symm (J.or d25 (J.symm d138))) (fun b _ h=>False.elim h) bo.sub
 replace bK:=bK.bw (J.symm (J.or d23 (J.symm d136))) up
 replace bP:=bP.bw (J.symm (J.or d24 (J.symm d137))) up
 replace bo:=bo.bw (J.symm (J.or d25 (J.symm d138))) up
 clear up d153 tB agr
 rw [y3] at EX
 refine S.bq 9 .nil [GT.val (⟨h.mem,n9,h.buf,h.ag⟩:ah) (⟨ai.mem,(c5.1,BO),ai.buf,ai.ag⟩:cb)] fun ac w β S=>?_
 have Lj:=fi (x:=(⟨h.mem,n9,h.buf,h.ag⟩:ah)) (p:=(⟨ai.mem,(c5.1,BO),ai.buf,ai.ag⟩:cb)) bK EX bP bo d158 d14 d15 (J.symm d159) (J.symm d160) d18
 exact wu S (show gK h m page s=(⟨h.mem,n9,h.buf,h.ag⟩:ah) from TF) rfl Lj ab5
theorem ZY (w0:World) (h:ah) (ai:cb) (F:au) (a1:GT.own b7 F w0 h ai) (eM:∀b,F b->b<w0.heap.size) (m:Int) (page:Int) (ft:(0<=m/\m<h.I.length)/\(el h.I m.toNat).tables.length=(el h.I m.toNat).U.length/\(0<=page/\page<=7)/\(el h.I m.toNat).outer.length=8/\(el h.I m.toNat).out.length=8):Calls Tryz.prog 264 [GT.val h ai,aa m,aa page].toArray w0 (rD F ai w0 (iu h m page:ah)):=by
 refine Calls.run F Tryz.func264 ?_
 intro ac β S
 have eb:ad w0 F w0 (fc w0.heap.size) F h ai:=⟨a1,eM,fun b hb=> .inr hb⟩
 obtain⟨cc,e4,e5,dT,bK,bY,bP,bo,_,_,_,_,d13,d14,d15,d16,d17,d18⟩:=jL eb
 refine S.go 7 .nil fun ac w β S=>?_
 refine dI ?_
 refine S.dP (f:=22) 21 (by kernel_rfl) (by kernel_rfl) fun w S=>?_
 refine S.hm 3 [0,1,2,3,4,5,6,7,8,9,10,11,12,13,14,15,16,17,18] [] [(12,.v (R (el h.I m.toNat).out.length (ai.I.2 m.toNat).out.1)),(13,.v (aa page)),(15,.v (R h.mem.length ai.mem.1)),(25,.v (aa (el (el h.I m.toNat).outer page.toNat).page))] (.cons (cp bY.ak m Tryz.underlying28) (.cons (cz bY.ak 22 m.toNat 1 (R (el h.I m.toNat).out.length (ai.I.2 m.toNat).out.1)) (.cons (cp bY.ak m Tryz.underlying28) (.cons (cz bY.ak 64 m.toNat 0 (R (el h.I m.toNat).outer.length (ai.I.2 m.toNat).outer.1)) (.cons (cp (aU.outer (d:=(el h.I m.toNat)) (af.el bY.ak m.toNat (by omega))) page Tryz.underlying64) (.cons (cz (aU.outer (d:=(el h.I m.toNat)) (af.el bY.ak m.toNat (by omega))) 3 page.toNat 0 (aa (el (el h.I m.toNat).outer page.toNat).page)) .nil)))))) fun ac S=>?_
 refine ar.one (i:=19) (by kernel_rfl) ?_
 refine id (S.dz 26 (ZH w h.mem ai.mem (S.rd bK.ak) (el (el h.I m.toNat).outer page.toNat).page) fun ac w N c5 oR S up fh d23=>?_)
 refine ar.next S up (by kernel_rfl) ?_
 have d24:=J.w d23 bK.sub
 have d25:=J.w d23 bY.sub
 have d26:=J.w d23 bP.sub
 have d27:=J.w d23 bo.sub
 replace bK:=bK.up up
 replace bY:=bY.up up
 replace bP:=bP.up up
 replace bo:=bo.up up
 clear up d23
 refine S.a9 20 [20] [] [(27,.v (bg (ai.I.2 m.toNat).out.1.b ((ai.I.2 m.toNat).out.1.off+page.toNat*1)))] (.cons (cp (aU.out (d:=(el h.I m.toNat)) (af.el bY.ak m.toNat (by omega))) page Tryz.underlying22) .nil) fun ac S=>?_
 refine ar.one (i:=21) (by kernel_rfl) ?_
 obtain⟨n1,kb,wC,OC⟩:=Q4 bY (k:=m.toNat) (show m.toNat<h.I.length by omega)
 have KP:=af.le kb.ak
 have agI:=kb.sub
 refine id (S.kO (α:=List Int) kb (t:=38) (k:=page.toNat) (off:=(ai.I.2 m.toNat).out.1.off+page.toNat*1) fh (J.symm (J.symm (J.part d25 wC))) fun w N n2 BQ S up ie d37 Cg Bh=>?_)
 refine ar.last (by kernel_rfl) ?_
 have d40:=d37 _ (J.symm (J.part (J.symm d13) wC)) d24 bK.sub
 have d41:=d37 _ (J.symm (J.part d16 wC)) d26 bP.sub
 have d42:=d37 _ (J.symm (J.part d17 wC)) d27 bo.sub
 replace bK:=bK.bw (J.symm (J.part (J.symm d13) wC)) up
 replace bP:=bP.bw (J.symm (J.part d16 wC)) up
 replace bo:=bo.bw (J.symm (J.part d17 wC)) up
 clear d37 kb
 obtain⟨Me,ql,XY,Iq⟩:=OC _ _ _ _ _ oR up ie Cg d25 (by show [R _ _]=[R _ _];rw [List.length_set]) (fun b h=>Bh b (agI b h))
 have ace:=de.iK (de.g0 _) Iq
 clear up ie Bh
 have TL:(h.I.set m.toNat ({el h.I m.toNat with out:=((el h.I m.toNat).out.set page.toNat (hg h.mem (el (el h.I m.toNat).outer page.toNat).page))})).length=h.I.length:=List.length_set
 obtain⟨n_,RM⟩:∃z,z=h.I.set m.toNat ({el h.I m.toNat with out:=((el h.I m.toNat).out.set page.toNat (hg h.mem (el (el h.I m.toNat).outer page.toNat).page))}):=⟨_,rfl⟩
 rw [←RM] at ql XY TL
 obtain⟨api,amH⟩:=FQ RM (show m.toNat<h.I.length by omega) List.length_set
 replace S:=S.z (σ':=⟨[(1,.v (aa m)),(2,.v (aa page)),(3,.p 0 0),(6,.p 1 0),(26,.v (R (hg h.mem (el (el h.I m.toNat).outer page.toNat).page).length c5.1)),(27,.v (bg (ai.I.2 m.toNat).out.1.b ((ai.I.2 m.toNat).out.1.off+page.toNat*1)))],[[R h.mem.length ai.mem.1,R h.I.length ai.I.1,R h.buf.length ai.buf.1,R h.ag.length ai.ag.1],ck ah]⟩)
 replace S:=S.cast (σ':=⟨[(1,.v (aa m)),(2,.v (aa page)),(3,.p 0 0),(6,.p 1 0),(26,.v (R (hg h.mem (el (el h.I m.toNat).outer page.toNat).page).length c5.1)),(27,.v (bg (ai.I.2 m.toNat).out.1.b ((ai.I.2 m.toNat).out.1.off+page.toNat*1)))],[[R h.mem.length ai.mem.1,R n_.length ai.I.1,R h.buf.length ai.buf.1,R h.ag.length ai.ag.1],ck ah]⟩) (by rw [show n_.length=h.I.length by omega])
 refine ar.done (by kernel_rfl) ?_ _
 refine S.ex fun S=>?_
 refine S.go 2 .nil fun ac w β S=>?_
 refine dI ?_
 refine S.dP (f:=6) 4 (by kernel_rfl) (by kernel_rfl) fun w S=>?_
 refine S.hm 3 [0,1,2] [] [(28,.v (GT.val (⟨h.mem,n_,h.buf,h.ag⟩:ah) (⟨ai.mem,(ai.I.1,Me),ai.buf,ai.ag⟩:cb))),(29,.v (aa m)),(30,.v (aa page))] .nil fun ac S=>?_
 refine S.iI 3 [] [(31,.v (GT.val (⟨-1,0⟩:aQ) ()))] 2 [] (.cons (aE fun w hw=>nz w) .nil) fun ac w β S=>?_
 refine ar.one (i:=4) (by kernel_rfl) ?_
 have q8:=fi (x:=(⟨h.mem,n_,h.buf,h.ag⟩:ah)) (p:=(⟨ai.mem,(ai.I.1,Me),ai.buf,ai.ag⟩:cb)) bK ql bP bo (J.symm (J.or (J.symm d13) (J.symm d40))) d14 d15 (J.symm (J.symm (J.or d16 (J.symm d41)))) (J.symm (J.symm (J.or d17 (J.symm d42)))) d18
 refine id (S.P4 (d:=32) q8 (rfl:(gK (⟨h.mem,n_,h.buf,h.ag⟩:ah) m page (⟨-1,0⟩:aQ))=_) (Hm w (⟨h.mem,n_,h.buf,h.ag⟩:ah) (⟨ai.mem,(ai.I.1,Me),ai.buf,ai.ag⟩:cb) (j1 [cc,(Or e4 n2),e5,dT]) (S.fX q8) (fun b hb=>(S.sep b (q8.sub b hb)).1) m page (⟨-1,0⟩:aQ) (show ea ⟨-1,0⟩ from⟨⟨by decide,by decide⟩,⟨by decide,by decide⟩⟩) (by(first|omega|(dsimp only;omega)))) fun ac w N gk qA S up kI d57 te=>?_)
 refine ar.last (by kernel_rfl) ?_
 clear up d57 q8
 obtain⟨N8,lF,sM,wZ,qn,iS,g7,jY,_,_,_,_,d71,d72,d73,d74,d75,d76⟩:=jL kI
 have Iv:=de.iK ace te
 refine S.c9 5 [] [] 2 [(1,[R (gK (⟨h.mem,n_,h.buf,h.ag⟩:ah) m page (⟨-1,0⟩:aQ)).mem.length gk.mem.1,R (gK (⟨h.mem,n_,h.buf,h.ag⟩:ah) m page (⟨-1,0⟩:aQ)).I.length gk.I.1,R (gK (⟨h.mem,n_,h.buf,h.ag⟩:ah) m page (⟨-1,0⟩:aQ)).buf.length gk.buf.1,R (gK (⟨h.mem,n_,h.buf,h.ag⟩:ah) m page (⟨-1,0⟩:aQ)).ag.length gk.ag.1])] .nil fun ac w β S=>?_
 refine ar.done (by kernel_rfl) ?_ _
 refine S.ex fun S=>?_
 refine S.bq 2 .nil [GT.val (gK (⟨h.mem,n_,h.buf,h.ag⟩:ah) m page (⟨-1,0⟩:aQ)) gk] fun ac w β S=>?_
 have l0:=fi (x:=(gK (⟨h.mem,n_,h.buf,h.ag⟩:ah) m page (⟨-1,0⟩:aQ))) (p:=gk) qn iS g7 jY d71 d72 d73 d74 d75 d76
 exact wu S (show iu h m page=(gK (⟨h.mem,n_,h.buf,h.ag⟩:ah) m page (⟨-1,0⟩:aQ)) by clear S;(first|(subst_vars;rfl)|(subst_vars;simp [iu,j9,gK,mU,dS, *];done))) rfl l0 Iv
theorem KF {p:Prop} (h:p:=by clear S;(unfold js;(repeat' split)<;>first|rfl|(simp;done)|(exfalso;omega)|(exfalso;simp_all;done)|(exfalso;simp_all;omega))):p:=h
theorem ZR (w0:World) (m:List (List Int)) (pm:aC (List Int)) (hm:bT w0 m pm) (page:Int) (cells:List Int) (l5:aC Int) (ml:bT w0 cells l5):Calls Tryz.prog 321 [R m.length pm.1,aa page,R cells.length l5.1].toArray w0 (dw ab w0 (js m page cells:List (List Int))):=by
 refine Calls.run ab Tryz.func321 ?_
 intro ac β S
 have qW:m.length<=4194304:=af.le hm
 have Jx:cells.length<=4194304:=af.le ml
 refine S.go 8 .nil fun ac w β S=>S.cN (r:=m) (d:=9) (pU w m pm (S.rd (S.arg hm))) fun ac w N ae br S up aD d4=>?_
 clear up d4
 refine S.bb 12 (.cons (g8 (m.length:Int) 1) (.cons (aE fun w hw=>fw w page 0 ((m.length:Int)-1)) .nil)) (a3 page 0 ((m.length:Int)-1)) (fun ac w β bl S=>?_) (fun ac w β bl S=>?_)
 ·have c7:=cU bl
  refine S.bb 5 (.cons (aE fun w hw=>Hh w cells l5 (bN (S.arg ml) hw)) .nil) (hh cells) (fun ac w β cD S=>?_) (fun ac w β cD S=>?_)
  ·refine S.go 4 .nil fun ac w β S=>S.gR (α:=Int) (d:=21) fun ac w N bX bU S up m9 d11=>?_
   have d12:=J.w d11 aD.sub
   replace aD:=aD.up up
   clear up d11
   have alW:cells.length<=4194304:=af.le (S.arg ml)
   refine S.go 1 .nil fun ac w β S=>S.lC (α:=Int) m9 (S.arg ml) (fun _ _ h=>h) (by':=8) (d:=23) (lx:=0) (ly:=cells.length) rfl fun ac w N yM fL S up bh d16=>?_
   have d18:=d16 _ d12 aD.sub
   replace aD:=aD.bw d12 up
   clear up d16
   refine S.go 1 (.cons (cp aD.ak page Tryz.underlying22) .nil) fun ac w β S=>S.eJ (α:=List Int) aD (t:=38) (k:=page.toNat) (off:=ae.1.off+page.toNat*1) bh d18 fun w N hq dd S up iD d22 yW agE=>?_
   clear up d22 aD agE
   have KO:(m.set page.toNat cells).length=m.length:=List.length_set
   refine S.bq 9 .nil [R m.length ae.1] fun ac w β S=>?_
   exact cx S (show js m page cells=(m.set page.toNat cells) from KF) (by rw [show m.length=(m.set page.toNat cells).length from(by rw [List.length_set])];rfl) iD
  refine S.bq 10 .nil [R m.length ae.1] fun ac w β S=>?_
  exact cx S (show js m page cells=m from KF) rfl aD
 have p6:=dm bl
 refine S.bq 15 .nil [R m.length ae.1] fun ac w β S=>?_
 exact cx S (show js m page cells=m from KF) rfl aD
theorem ZW (w0:World) (h:ah) (ai:cb) (F:au) (a1:GT.own b7 F w0 h ai) (eM:∀b,F b->b<w0.heap.size) (m:Int) (page:Int) (ft:fJ h m page=true):Calls Tryz.prog 265 [GT.val h ai,aa m,aa page].toArray w0 (rD F ai w0 (ld h m page:ah)):=by
 refine Calls.run F Tryz.func265 ?_
 intro ac β S
 have eb:ad w0 F w0 (fc w0.heap.size) F h ai:=⟨a1,eM,fun b hb=> .inr hb⟩
 obtain⟨cc,e4,e5,dT,bK,bY,bP,bo,_,_,_,_,d13,d14,d15,d16,d17,d18⟩:=jL eb
 have bD:=pj (h:=h) (m:=m) (page:=page) (by assumption)
 refine S.go 10 .nil fun ac w β S=>S.cN (r:=eg h) (d:=11) (PR w h ai (S.rd (show GT.rd b7 _ _ h ai from⟨bK.ak,bY.ak,bP.ak,bo.ak⟩))) fun ac w N dg hq S up fU d22=>?_
 replace bK:=bK.up up
 replace bY:=bY.up up
 replace bP:=bP.up up
 replace bo:=bo.up up
 clear up d22
 refine S.go 4 .nil fun ac w β S=>?_
 refine il S (fun ac w=>∃(bp:ah) (eZ:cb) (n1:au) (u:_) (N:_) (β:_),(bp=j8 h)/\aj Tryz.prog Tryz.f265.ntmps w0 F u N β ⟨[(1,.v (aa m)),(2,.v (aa page)),(3,.p 0 0),(6,.p 1 0)],[GT.cells bp eZ,ck ah]⟩ ac w/\ad w0 F u N n1 bp eZ/\de ai.I.2 (cb.I eZ).2) ?_ ?_
 ·clear S;intro S
  refine S.aI 0 .nil (((eg h).length:Int)==0) (fun ac w β pf z9 S=>?_) (fun ac w β pf z9 S=>?_)
  ·have ie:=fi (x:=h) (p:=ai) bK bY bP bo d13 d14 d15 d16 d17 d18
   obtain⟨av,hn⟩:∃z,z=(iu h (dX h 0).1 (dX h 0).2):=⟨_,rfl⟩
   have afN:=VD (h:=h) hn (r1 (by assumption)) (by omega) m.toNat
   try dsimp only at afN
   refine S.go 16 (.cons (aE fun w hw=>PV w h ai (bN (show GT.rd b7 _ _ h ai from⟨bK.ak,bY.ak,bP.ak,bo.ak⟩) hw) 0) .nil) fun ac w β S=>S.zm (d:=22) ie hn (ZY w h ai (j1 [cc,e4,e5,dT]) (S.fX ie) (fun b hb=>(S.sep b (ie.sub b hb)).1) (dX h 0).1 (dX h 0).2 (by(first|omega|(dsimp only;omega)|((have vO:=No (r1 (by assumption)) (show ¬0<(eg h).length by omega));omega)))) fun ac w N tN CL S up iE d38 DJ=>?_
   clear up d38 ie
   obtain⟨n3,lE,CO,qz,kd,ey,tE,g6,_,_,_,_,d53,d54,d55,d56,d57,d58⟩:=jL iE
   have Is:=de.iK (de.g0 _) DJ
   have qn:=fi (x:=av) (p:=tN) kd ey tE g6 d53 d54 d55 d56 d57 d58
   exact S.dF 2 .nil fun ac w β S=>⟨rfl,av,tN,(j1 [n3,lE,CO,qz]),_,_,_,(by clear S;first|exact FH (by assumption) (by omega)|exact FG (by omega)),S.z,qn,Is⟩
  have ez:=fi (x:=h) (p:=ai) bK bY bP bo d13 d14 d15 d16 d17 d18
  exact S.dF 2 .nil fun ac w β S=>⟨rfl,h,ai,(j1 [cc,e4,e5,dT]),_,_,_,(by clear S;first|exact FH (by assumption) (by omega)|exact FG (by omega)),S.z,ez,(de.g0 _)⟩
 clear S bK bY bP bo fU
 rintro ac w ⟨bp,eZ,n1,u,N,β,kB,S,kb,xP⟩
 have bn:=Vx kB (by assumption)
 obtain⟨lF,sM,wZ,GP,iS,g7,jY,oF,_,_,_,_,_,_,_,d77,d78,d79⟩:=jL kb
 refine S.ex fun S=>?_
 refine S.go 4 .nil fun ac w β S=>S.cN (r:=eg bp) (d:=24) (PR w bp eZ (S.rd (show GT.rd b7 _ _ bp eZ from⟨iS.ak,g7.ak,jY.ak,oF.ak⟩))) fun ac w N rk zk S up oG d83=>?_
 replace iS:=iS.up up
 replace g7:=g7.up up
 replace jY:=jY.up up
 replace oF:=oF.up up
 clear up d83
 have i88:a_ (el (eg bp) 0):=(af.el oG.ak 0 (by omega))
 refine S.go 6 (.cons (b6 oG.ak 0 Tryz.underlying38) (.cons (cj oG.ak 3 0) .nil)) fun ac w β S=>?_
 refine dI ?_
 refine S.dP (f:=15) 14 (by kernel_rfl) (by kernel_rfl) fun w S=>?_
 refine S.hm 3 [0,1,2,3,4,5,6,7,8,9,10,11] [] [(28,.v (R bp.mem.length eZ.mem.1)),(29,.v (aa (el (eg bp) 0))),(38,.v (R (el (el bp.I m.toNat).out page.toNat).length ((eZ.I.2 m.toNat).out.2 page.toNat).1))] (.cons (cp g7.ak m Tryz.underlying28) (.cons (cz g7.ak 22 m.toNat 1 (R (el bp.I m.toNat).out.length (eZ.I.2 m.toNat).out.1)) (.cons (cp (aU.out (d:=(el bp.I m.toNat)) (af.el g7.ak m.toNat (by omega))) page Tryz.underlying22) (.cons (cj (aU.out (d:=(el bp.I m.toNat)) (af.el g7.ak m.toNat (by omega))) 38 page.toNat) .nil)))) fun ac S=>?_
 refine ar.one (i:=12) (by kernel_rfl) ?_
 refine id (S.dz 39 (ZR w bp.mem eZ.mem (S.rd iS.ak) (el (eg bp) 0) (el (el bp.I m.toNat).out page.toNat) ((eZ.I.2 m.toNat).out.2 page.toNat) (S.rd (af.el (aU.out (d:=(el bp.I m.toNat)) (af.el g7.ak m.toNat (by omega))) page.toNat (by omega)))) fun ac w N B0 N_ S up l1 d92=>?_)
 refine ar.next S up (by kernel_rfl) ?_
 have d94:=J.w d92 g7.sub
 have d95:=J.w d92 jY.sub
 have d96:=J.w d92 oF.sub
 replace g7:=g7.up up
 replace jY:=jY.up up
 replace oF:=oF.up up
 clear up d92
 refine S.a9 13 [13] [] [(40,.p 0 0)] .nil fun ac S=>?_
 refine S.c9 14 [] [] 2 [(0,[R (js bp.mem (el (eg bp) 0) (el (el bp.I m.toNat).out page.toNat)).length B0.1,R bp.I.length eZ.I.1,R bp.buf.length eZ.buf.1,R bp.ag.length eZ.ag.1])] .nil fun ac w β S=>?_
 refine ar.done (by kernel_rfl) ?_ _
 refine S.ex fun S=>?_
 refine S.go 10 (.cons (cp g7.ak m Tryz.underlying28) (.cons (cz g7.ak 22 m.toNat 1 (R (el bp.I m.toNat).out.length (eZ.I.2 m.toNat).out.1)) .nil)) fun ac w β S=>S.gR (α:=Int) (d:=48) fun ac w N gQ gd S up my d100=>?_
 have d101:=J.w d100 g7.sub
 have d102:=J.w d100 jY.sub
 have d103:=J.w d100 oF.sub
 have d104:=J.w d100 l1.sub
 replace g7:=g7.up up
 replace jY:=jY.up up
 replace oF:=oF.up up
 replace l1:=l1.up up
 clear up d100
 obtain⟨ak3,q5,wx,W8⟩:=Q4 g7 (k:=m.toNat) (show m.toNat<bp.I.length by omega)
 have aoD:=af.le q5.ak
 have agi:=q5.sub
 refine S.go 1 (.cons (cp (aU.out (d:=(el bp.I m.toNat)) (af.el g7.ak m.toNat (by omega))) page Tryz.underlying22) .nil) fun ac w β S=>S.eJ (α:=List Int) q5 (t:=38) (k:=page.toNat) (off:=(eZ.I.2 m.toNat).out.1.off+page.toNat*1) my (J.symm (J.symm (J.part d101 wx))) fun w N CF dv S up qi d114 VA EP=>?_
 have d117:=d114 _ (J.symm (J.part d77 wx)) d102 jY.sub
 have d118:=d114 _ (J.symm (J.part d78 wx)) d103 oF.sub
 have d119:=d114 _ (J.symm (J.part d94 wx)) d104 l1.sub
 replace jY:=jY.bw (J.symm (J.part d77 wx)) up
 replace oF:=oF.bw (J.symm (J.part d78 wx)) up
 replace l1:=l1.bw (J.symm (J.part d94 wx)) up
 clear d114 q5
 obtain⟨Fo,sk,XQ,Rc⟩:=W8 _ _ _ _ _ gd up qi VA d101 (by show [R _ _]=[R _ _];rw [List.length_set]) (fun b h=>EP b (agi b h))
 have abV:=de.iK xP Rc
 clear up qi EP
 have afv:(bp.I.set m.toNat ({el bp.I m.toNat with out:=((el bp.I m.toNat).out.set page.toNat ([]:List Int))})).length=bp.I.length:=List.length_set
 obtain⟨zt,RA⟩:∃z,z=bp.I.set m.toNat ({el bp.I m.toNat with out:=((el bp.I m.toNat).out.set page.toNat ([]:List Int))}):=⟨_,rfl⟩
 rw [←RA] at sk XQ afv
 obtain⟨afw,Dr⟩:=FQ RA (show m.toNat<bp.I.length by omega) List.length_set
 replace S:=S.z (σ':=⟨[(1,.v (aa m)),(2,.v (aa page)),(3,.p 0 0),(6,.p 1 0),(9,.v (aa (el (eg bp) 0))),(48,.v (R 0 gQ.1)),(49,.v (bg (eZ.I.2 m.toNat).out.1.b ((eZ.I.2 m.toNat).out.1.off+page.toNat*1)))],[[R (js bp.mem (el (eg bp) 0) (el (el bp.I m.toNat).out page.toNat)).length B0.1,R bp.I.length eZ.I.1,R bp.buf.length eZ.buf.1,R bp.ag.length eZ.ag.1],ck ah]⟩)
 replace S:=S.cast (σ':=⟨[(1,.v (aa m)),(2,.v (aa page)),(3,.p 0 0),(6,.p 1 0),(9,.v (aa (el (eg bp) 0))),(48,.v (R 0 gQ.1)),(49,.v (bg (eZ.I.2 m.toNat).out.1.b ((eZ.I.2 m.toNat).out.1.off+page.toNat*1)))],[[R (js bp.mem (el (eg bp) 0) (el (el bp.I m.toNat).out page.toNat)).length B0.1,R zt.length eZ.I.1,R bp.buf.length eZ.buf.1,R bp.ag.length eZ.ag.1],ck ah]⟩) (by rw [show zt.length=bp.I.length by omega])
 have mx:=fi (x:=(⟨(js bp.mem (el (eg bp) 0) (el (el bp.I m.toNat).out page.toNat)),zt,bp.buf,bp.ag⟩:ah)) (p:=(⟨B0,(eZ.I.1,Fo),eZ.buf,eZ.ag⟩:cb)) l1 sk jY oF (J.symm (J.or d94 (J.symm d119))) (J.symm d95) (J.symm d96) (J.symm (J.symm (J.or d77 (J.symm d117)))) (J.symm (J.symm (J.or d78 (J.symm d118)))) d79
 obtain⟨av,hn⟩:∃z,z=(gK (⟨(js bp.mem (el (eg bp) 0) (el (el bp.I m.toNat).out page.toNat)),zt,bp.buf,bp.ag⟩:ah) m page (⟨(el (eg bp) 0),3⟩:aQ)):=⟨_,rfl⟩
 refine S.is fun S=>?_
 refine S.go 9 (.cons (fT (s:=Instr.build 111 [(0,aa (el (eg bp) 0)),(1,aa 3)].toArray) (v:= .agg [aa (el (eg bp) 0),aa 3].toArray) (fun w=>by kernel_rfl)) .nil) fun ac w β S=>S.zm (d:=55) mx hn (Hm w (⟨(js bp.mem (el (eg bp) 0) (el (el bp.I m.toNat).out page.toNat)),zt,bp.buf,bp.ag⟩:ah) (⟨B0,(eZ.I.1,Fo),eZ.buf,eZ.ag⟩:cb) (j1 [N_,(Or sM CF),wZ,GP]) (S.fX mx) (fun b hb=>(S.sep b (mx.sub b hb)).1) m page (⟨(el (eg bp) 0),3⟩:aQ) (show ea (⟨(el (eg bp) 0),3⟩:aQ) from⟨i88,(show a_ 3 from⟨by decide,by decide⟩)⟩) (by(first|omega|(dsimp only;omega)))) fun ac w N Vd NR S up Bq d134 abX=>?_
 clear up d134 mx
 obtain⟨ak8,NT,NU,NV,ag3,tB,ag4,Br,_,_,_,_,d148,d149,d150,d151,d152,d153⟩:=jL Bq
 have ab3:=de.iK abV abX
 refine S.bq 4 .nil [GT.val av Vd] fun ac w β S=>?_
 have jb:=fi (x:=av) (p:=Vd) ag3 tB ag4 Br d148 d149 d150 d151 d152 d153
 exact wu S (show ld h m page=av by clear S;subst hn;(unfold ld;first|(subst_vars;rfl)|(subst_vars;simp [o9,j9,gK,mU,dS, *];done))) rfl jb ab3
theorem TG {p:Prop} (h:p:=by clear S;(first|(rw [K2 (by assumption) kB.symm (Dw (by omega) (by assumption))];done)|(rw [K4 (by assumption) kB.symm (xA (by omega) (by assumption)) (by assumption) (xA (EM (by assumption) kB.symm (by assumption)) (by assumption))];done)|(rw [K3 (by assumption) kB.symm (xA (by omega) (by assumption)) (by assumption) (Dw (EM (by assumption) kB.symm (by assumption)) (by assumption))];done))):p:=h
theorem ZX (w0:World) (h:ah) (ai:cb) (F:au) (a1:GT.own b7 F w0 h ai) (eM:∀b,F b->b<w0.heap.size) (m:Int) (page:Int) (need:Int) (ft:fJ h m page=true) (gP:1<=need) (apI:need<=3):Calls Tryz.prog 181 [GT.val h ai,aa m,aa page,aa need].toArray w0 (rD F ai w0 (gm h m page need:ah)):=by
 refine Calls.run F Tryz.func181 ?_
 intro ac β S
 have eb:ad w0 F w0 (fc w0.heap.size) F h ai:=⟨a1,eM,fun b hb=> .inr hb⟩
 obtain⟨cc,e4,e5,dT,bK,bY,bP,bo,_,_,_,_,d13,d14,d15,d16,d17,d18⟩:=jL eb
 have bD:=pj (h:=h) (m:=m) (page:=page) (by assumption)
 refine S.go 10 (.cons (cp bY.ak m Tryz.underlying28) (.cons (cz bY.ak 64 m.toNat 0 (R (el h.I m.toNat).outer.length (ai.I.2 m.toNat).outer.1)) (.cons (cp (aU.outer (d:=(el h.I m.toNat)) (af.el bY.ak m.toNat (by omega))) page Tryz.underlying64) (.cons (dy (aU.outer (d:=(el h.I m.toNat)) (af.el bY.ak m.toNat (by omega))) 111 page.toNat) (.cons (aE fun w hw=>nz w) (.cons (qv (t:=111) (el (el h.I m.toNat).outer page.toNat) (⟨-1,0⟩:aQ) (by kernel_rfl)) .nil)))))) fun ac w β S=>?_
 refine il S (fun ac w=>∃(bp:ah) (dg:cb) (hq:au) (u:_) (N:_) (β:_),(bp=hz h m page)/\aj Tryz.prog Tryz.f181.ntmps w0 F u N β ⟨[(1,.v (aa m)),(2,.v (aa page)),(3,.v (aa need)),(4,.p 0 0),(8,.p 1 0)],[GT.cells bp dg,ck ah]⟩ ac w/\ad w0 F u N hq bp dg/\de ai.I.2 (cb.I dg).2) ?_ ?_
 ·clear S;intro S
  refine S.bb 0 .nil (decide ((el (el h.I m.toNat).outer page.toNat)=(⟨-1,0⟩:aQ))) (fun ac w β gM S=>?_) (fun ac w β gM S=>?_)
  ·have dC:=fi (x:=h) (p:=ai) bK bY bP bo d13 d14 d15 d16 d17 d18
   obtain⟨av,hn⟩:∃z,z=(ld h m page):=⟨_,rfl⟩
   have TJ:=Ie hn (by assumption)
   try dsimp only at TJ
   refine S.go 5 .nil fun ac w β S=>S.zm (d:=24) dC hn (ZW w h ai (j1 [cc,e4,e5,dT]) (S.fX dC) (fun b hb=>(S.sep b (dC.sub b hb)).1) m page (by(first|assumption|exact r1 (by assumption)|omega|(dsimp only;omega)))) fun ac w N Ml uh S up fC d29 xP=>?_
   clear up d29 dC
   obtain⟨mF,n2,k8,n3,gw,gY,wb,kd,_,_,_,_,d44,d45,d46,d47,d48,d49⟩:=jL fC
   have DL:=de.iK (de.g0 _) xP
   have g6:=fi (x:=av) (p:=Ml) gw gY wb kd d44 d45 d46 d47 d48 d49
   exact S.dF 2 .nil fun ac w β S=>⟨rfl,av,Ml,(j1 [mF,n2,k8,n3]),_,_,_,(by clear S;first|exact(EL (by assumption) (by assumption)).symm|exact(EJ (by assumption)).symm|exact tv (by assumption) (of_decide_eq_true (by assumption))|exact(tu (by assumption) (of_decide_eq_false (by assumption))).symm|exact tv (by assumption) (by assumption)|exact(tu (by assumption) (by assumption)).symm),S.z,g6,DL⟩
  have ahF:=fi (x:=h) (p:=ai) bK bY bP bo d13 d14 d15 d16 d17 d18
  exact S.dF 2 .nil fun ac w β S=>⟨rfl,h,ai,(j1 [cc,e4,e5,dT]),_,_,_,(by clear S;first|exact(EL (by assumption) (by assumption)).symm|exact(EJ (by assumption)).symm|exact tv (by assumption) (of_decide_eq_true (by assumption))|exact(tu (by assumption) (of_decide_eq_false (by assumption))).symm|exact tv (by assumption) (by assumption)|exact(tu (by assumption) (by assumption)).symm),S.z,ahF,(de.g0 _)⟩
 clear S bK bY bP bo
 rintro ac w ⟨bp,dg,hq,u,N,β,kB,S,fU,tc⟩
 have bn:=Bf kB (by assumption)
 obtain⟨GL,j4,N8,lF,qm,m_,qn,iS,_,_,_,_,d65,d66,d67,d68,d69,d70⟩:=jL fU
 refine S.ex fun S=>?_
 refine S.aI 9 (.cons (qC (x:=need) (y:=2)) .nil) ((jH need 2)==0) (fun ac w β Aj Aa S=>?_) (fun ac w β Aj Aa S=>?_)
 ·refine S.bq 8 .nil [GT.val bp dg] fun ac w β S=>?_
  have hH:=fi (x:=bp) (p:=dg) qm m_ qn iS d65 d66 d67 d68 d69 d70
  exact wu S (show gm h m page need=bp from TG) rfl hH tc
 obtain⟨CQ,nS,yZ,XG⟩:=Q3 m_ (k:=m.toNat) (show m.toNat<bp.I.length by omega)
 have afV:=af.le nS.ak
 have agV:=nS.sub
 refine S.go 13 (.cons (cp m_.ak m Tryz.underlying28) (.cons (cz m_.ak 39 m.toNat 2 (R (el bp.I m.toNat).aT.length (dg.I.2 m.toNat).aT.1)) (.cons (cp (aU.aT (d:=(el bp.I m.toNat)) (af.el m_.ak m.toNat (by omega))) page Tryz.underlying39) .nil))) fun ac w β S=>S.fM (α:=Bool) nS (t:=4) (k:=page.toNat) (j:=0) (off:=(dg.I.2 m.toNat).aT.1.off+page.toNat*1) (v:=B true) (y:=true) (q:=()) (fun _ _ _=>⟨ab,trivial,fun _ h=>False.elim h⟩) fun w N zk pD S up q_ d83 Nn Uc=>?_
 have d86:=d83 _ (J.symm (J.part (J.symm d65) yZ)) (fun b _ h=>False.elim h) qm.sub
 have d87:=d83 _ (J.symm (J.part d68 yZ)) (fun b _ h=>False.elim h) qn.sub
 have d88:=d83 _ (J.symm (J.part d69 yZ)) (fun b _ h=>False.elim h) iS.sub
 replace qm:=qm.bw (J.symm (J.part (J.symm d65) yZ)) up
 replace qn:=qn.bw (J.symm (J.part d68 yZ)) up
 replace iS:=iS.bw (J.symm (J.part d69 yZ)) up
 clear d83 nS
 obtain⟨BM,fI,X3,acn⟩:=XG _ _ _ _ _ ab up q_ Nn (fun b _ h=>False.elim h) (by show [R _ _]=[R _ _];rw [List.length_set]) (fun b h=>Uc b (agV b h))
 have DN:=de.iK tc acn
 clear up q_ Uc
 have afW:(bp.I.set m.toNat ({el bp.I m.toNat with aT:=((el bp.I m.toNat).aT.set page.toNat true)})).length=bp.I.length:=List.length_set
 obtain⟨ku,RR⟩:∃z,z=bp.I.set m.toNat ({el bp.I m.toNat with aT:=((el bp.I m.toNat).aT.set page.toNat true)}):=⟨_,rfl⟩
 rw [←RR] at fI X3 afW
 obtain⟨apw,amN⟩:=FO RR (show m.toNat<bp.I.length by omega) List.length_set
 replace S:=S.z (σ':=⟨[(1,.v (aa m)),(2,.v (aa page)),(4,.p 0 0),(8,.p 1 0),(36,.v (bg (dg.I.2 m.toNat).aT.1.b ((dg.I.2 m.toNat).aT.1.off+page.toNat*1)))],[[R bp.mem.length dg.mem.1,R bp.I.length dg.I.1,R bp.buf.length dg.buf.1,R bp.ag.length dg.ag.1],ck ah]⟩)
 replace S:=S.cast (σ':=⟨[(1,.v (aa m)),(2,.v (aa page)),(4,.p 0 0),(8,.p 1 0),(36,.v (bg (dg.I.2 m.toNat).aT.1.b ((dg.I.2 m.toNat).aT.1.off+page.toNat*1)))],[[R bp.mem.length dg.mem.1,R ku.length dg.I.1,R bp.buf.length dg.buf.1,R bp.ag.length dg.ag.1],ck ah]⟩) (by rw [show ku.length=bp.I.length by omega])
 refine S.is fun S=>?_
 refine S.aI 26 (.cons (cp fI.ak m Tryz.underlying28) (.cons (cz fI.ak 64 m.toNat 0 (R (el ku m.toNat).outer.length ((dg.I.1,BM).2 m.toNat).outer.1)) (.cons (cp (aU.outer (d:=(el ku m.toNat)) (af.el fI.ak m.toNat (by omega))) page Tryz.underlying64) (.cons (dy (aU.outer (d:=(el ku m.toNat)) (af.el fI.ak m.toNat (by omega))) 111 page.toNat) (.cons (qC (x:=(el (el ku m.toNat).outer page.toNat).bd) (y:=2)) .nil))))) ((jH (el (el ku m.toNat).outer page.toNat).bd 2)==0) (fun ac w β ac7 abO S=>?_) (fun ac w β ac7 abO S=>?_)
 ·have sj:=fi (x:=(⟨bp.mem,ku,bp.buf,bp.ag⟩:ah)) (p:=(⟨dg.mem,(dg.I.1,BM),dg.buf,dg.ag⟩:cb)) qm fI qn iS (J.symm (J.or (J.symm d65) (J.symm d86))) d66 d67 (J.symm (J.symm (J.or d68 (J.symm d87)))) (J.symm (J.symm (J.or d69 (J.symm d88)))) d70
  obtain⟨av,hn⟩:∃z,z=(gK (⟨bp.mem,ku,bp.buf,bp.ag⟩:ah) m page (⟨(el (el ku m.toNat).outer page.toNat).page,3⟩:aQ)):=⟨_,rfl⟩
  refine S.go 8 (.cons (fT (s:=Instr.build 111 [(0,aa (el (el ku m.toNat).outer page.toNat).page),(1,aa 3)].toArray) (v:= .agg [aa (el (el ku m.toNat).outer page.toNat).page,aa 3].toArray) (fun w=>by kernel_rfl)) .nil) fun ac w β S=>S.zm (d:=56) sj hn (Hm w (⟨bp.mem,ku,bp.buf,bp.ag⟩:ah) (⟨dg.mem,(dg.I.1,BM),dg.buf,dg.ag⟩:cb) (j1 [GL,(Or j4 zk),N8,lF]) (S.fX sj) (fun b hb=>(S.sep b (sj.sub b hb)).1) m page (⟨(el (el ku m.toNat).outer page.toNat).page,3⟩:aQ) (show ea (⟨(el (el ku m.toNat).outer page.toNat).page,3⟩:aQ) from⟨(ea.page (d:=(el (el ku m.toNat).outer page.toNat)) (af.el (aU.outer (d:=(el ku m.toNat)) (af.el fI.ak m.toNat (by omega))) page.toNat (by omega))),(show a_ 3 from⟨by decide,by decide⟩)⟩) (by(first|omega|(dsimp only;omega)))) fun ac w N U_ ak2 S up Le d105 Ij=>?_
  clear up d105 sj
  obtain⟨ij,Wf,NN,NO,Bo,qi,tz,Bp,_,_,_,_,d119,d120,d121,d122,d123,d124⟩:=jL Le
  have abW:=de.iK DN Ij
  refine S.bq 10 .nil [GT.val av U_] fun ac w β S=>?_
  have sl:=fi (x:=av) (p:=U_) Bo qi tz Bp d119 d120 d121 d122 d123 d124
  exact wu S (show gm h m page need=av by clear S;subst hn;(first|(rw [K2 (by assumption) kB.symm (Dw (by omega) (by assumption))];done)|(rw [K4 (by assumption) kB.symm (xA (by omega) (by assumption)) (by assumption) (xA (EM (by assumption) kB.symm (by assumption)) (by assumption))];done)|(rw [K3 (by assumption) kB.symm (xA (by omega) (by assumption)) (by assumption) (Dw (EM (by assumption) kB.symm (by assumption)) (by assumption))];done))) rfl sl abW
 refine S.bq 10 .nil [GT.val (⟨bp.mem,ku,bp.buf,bp.ag⟩:ah) (⟨dg.mem,(dg.I.1,BM),dg.buf,dg.ag⟩:cb)] fun ac w β S=>?_
 have v5:=fi (x:=(⟨bp.mem,ku,bp.buf,bp.ag⟩:ah)) (p:=(⟨dg.mem,(dg.I.1,BM),dg.buf,dg.ag⟩:cb)) qm fI qn iS (J.symm (J.or (J.symm d65) (J.symm d86))) d66 d67 (J.symm (J.symm (J.or d68 (J.symm d87)))) (J.symm (J.symm (J.or d69 (J.symm d88)))) d70
 exact wu S (show gm h m page need=(⟨bp.mem,ku,bp.buf,bp.ag⟩:ah) from TG) rfl v5 DN
theorem Ky {p:Prop} (h:p:=by clear S;(unfold lb;(repeat' split)<;>first|rfl|(exfalso;omega)|(exfalso;simp_all;done)|(exfalso;simp_all;omega)|(simp_all;done))):p:=h
theorem Zm (w0:World) (a:Int) (b:Int):Calls Tryz.prog 335 [aa a,aa b].toArray w0 (fun e w'=>e= .returned (aa (lb a b))/\bu ab w0 w'):=by
 refine Calls.run ab Tryz.func335 ?_
 intro ac β S
 refine S.bb 12 (.cons (aE fun w hw=>Dh w a) .nil) (!(a3 a 0 3)) (fun ac w β h1 S=>?_) (fun ac w β h1 S=>?_)
 ·have an:=cn h1
  have b4:=dm an
  exact S.aq 13 .nil [aa 0] (b3 Ky)
 have b2:=b_ h1
 have dK:=cU b2
 refine S.bb 6 (.cons (aE fun w hw=>Dh w b) .nil) (!(a3 b 0 3)) (fun ac w β cR S=>?_) (fun ac w β cR S=>?_)
 ·have cD:=cn cR
  have e_:=dm cD
  exact S.aq 7 .nil [aa 0] (b3 Ky)
 have et:=b_ cR
 have iP:=cU et
 exact S.aq 12 (.cons (qC (x:=a) (y:=b)) .nil) [aa (jH a b)] (b3 Ky)
theorem Ey {p:Prop} (h:p:=by clear S;(unfold hM;(repeat' split)<;>first|rfl|(exfalso;omega)|(exfalso;simp_all;done)|(exfalso;simp_all;omega)|(simp_all;done))):p:=h
theorem Zp (w0:World) (inner:aQ) (outer:List aQ) (ke:aC aQ) (ox:bT w0 outer ke):Calls Tryz.prog 306 [GT.val inner (),R outer.length ke.1].toArray w0 (fun e w'=>e= .returned (GT.val (hM inner outer) ())/\bu ab w0 w'):=by
 refine Calls.run ab Tryz.func306 ?_
 intro ac β S
 have JE:outer.length<=4194304:=af.le ox
 refine S.aI 33 (.cons (aE fun w hw=>PY w outer ke (bN (S.arg ox) hw) inner.page) (.cons (aE fun w hw=>Zm w inner.bd (eO outer inner.page).bd) .nil)) (inner.page==(-1)) (fun ac w β h1 a8 S=>?_) (fun ac w β h1 a8 S=>?_)
 ·exact S.aq 18 (.cons (aE fun w hw=>nz w) .nil) [GT.val (⟨-1,0⟩:aQ) ()] (hU (p:=()) Ey)
 refine S.aI 5 .nil ((eO outer inner.page).page==(-1)) (fun ac w β aF cB S=>?_) (fun ac w β aF cB S=>?_)
 ·exact S.aq 13 (.cons (aE fun w hw=>nz w) .nil) [GT.val (⟨-1,0⟩:aQ) ()] (hU (p:=()) Ey)
 refine S.aI 5 .nil ((lb inner.bd (eO outer inner.page).bd)==0) (fun ac w β bl c7 S=>?_) (fun ac w β bl c7 S=>?_)
 ·exact S.aq 8 (.cons (aE fun w hw=>nz w) .nil) [GT.val (⟨-1,0⟩:aQ) ()] (hU (p:=()) Ey)
 exact S.aq 13 (.cons (fT (s:=Instr.build 111 [(0,aa (eO outer inner.page).page),(1,aa (lb inner.bd (eO outer inner.page).bd))].toArray) (v:= .agg [aa (eO outer inner.page).page,aa (lb inner.bd (eO outer inner.page).bd)].toArray) (fun w=>by kernel_rfl)) .nil) [GT.val (⟨(eO outer inner.page).page,(lb inner.bd (eO outer inner.page).bd)⟩:aQ) ()] (hU (p:=()) Ey)
theorem KA {p:Prop} (h:p:=by clear S;(unfold lf;(repeat' split)<;>first|rfl|(exfalso;omega)|(exfalso;simp_all;done)|(exfalso;simp_all;omega)|(simp_all;done))):p:=h
theorem Zu (w0:World) (k:bQ) (ej:fm) (hk:bT w0 k ej) (inner:List aQ) (jc:aC aQ) (k0:bT w0 inner jc) (outer:List aQ) (ke:aC aQ) (ox:bT w0 outer ke) (page:Int):Calls Tryz.prog 227 [GT.val k ej,R inner.length jc.1,R outer.length ke.1,aa page].toArray w0 (dw ab w0 (lf k inner outer page:bQ)):=by
 refine Calls.run ab Tryz.func227 ?_
 intro ac β S
 have qU:k.known.length<=4194304:=af.le (er.known (d:=k) hk)
 have qV:k.aY.length<=4194304:=af.le (er.aY (d:=k) hk)
 have AT:inner.length<=4194304:=af.le k0
 have JE:outer.length<=4194304:=af.le ox
 refine S.go 9 .nil fun ac w β S=>S.cN (r:=k) (d:=10) (Di w k ej (S.rd (S.arg hk))) fun ac w N ae br S up aD d4=>?_
 clear up d4
 obtain⟨dO,eX,bJ,bE,_,_,d11⟩:=tV aD
 refine S.bb 10 (.cons (aE fun w hw=>Hl w k ae (bN (show GT.rd b7 _ _ k ae from⟨bJ.ak,bE.ak⟩) hw) page) .nil) (decide ((0<=page/\page<k.known.length)/\page<k.aY.length)) (fun ac w β dZ S=>?_) (fun ac w β dZ S=>?_)
 ·have hA:=of_decide_eq_true dZ
  refine S.aI 7 .nil (decide (page<(inner.length:Int))) (fun ac w β h9 lM S=>?_) (fun ac w β h9 lM S=>?_)
  ·refine S.go 7 (.cons (cp bJ.ak page Tryz.underlying39) .nil) fun ac w β S=>S.fM (α:=Bool) bJ (t:=4) (k:=page.toNat) (j:=0) (off:=ae.known.1.off+page.toNat*1) (v:=B true) (y:=true) (q:=()) (fun _ _ _=>⟨ab,trivial,fun _ h=>False.elim h⟩) fun w N cC jZ S up gE d19 ajp K_=>?_
   have d22:=d19 _ (J.symm d11) (fun b _ h=>False.elim h) bE.sub
   replace bE:=bE.bw (J.symm d11) up
   clear up d19 bJ K_
   have Bc:(k.known.set page.toNat true).length=k.known.length:=List.length_set
   replace S:=S.z (σ':=⟨[(1,.v (R inner.length jc.1)),(2,.v (R outer.length ke.1)),(3,.v (aa page)),(4,.p 0 0),(8,.p 1 0),(23,.v (bg ae.known.1.b (ae.known.1.off+page.toNat*1)))],[[R k.known.length ae.known.1,R k.aY.length ae.aY.1],ck bQ]⟩)
   replace S:=S.cast (σ':=⟨[(1,.v (R inner.length jc.1)),(2,.v (R outer.length ke.1)),(3,.v (aa page)),(4,.p 0 0),(8,.p 1 0),(23,.v (bg ae.known.1.b (ae.known.1.off+page.toNat*1)))],[[R (k.known.set page.toNat true).length ae.known.1,R k.aY.length ae.aY.1],ck bQ]⟩) (by rw [show(k.known.set page.toNat true).length=k.known.length by omega])
   refine S.is fun S=>?_
   refine S.go 2 .nil fun ac w β S=>?_
   refine dI ?_
   refine S.dP (f:=11) 10 (by kernel_rfl) (by kernel_rfl) fun w S=>?_
   refine S.hm 3 [0,1,2,3,4,5,6,7] [] [(25,.v (R k.aY.length ae.aY.1)),(26,.v (aa page)),(30,.v (GT.val (el inner page.toNat) ())),(31,.v (R outer.length ke.1))] (.cons (cp (S.arg k0) page Tryz.underlying64) (.cons (dy (S.arg k0) 111 page.toNat) .nil)) fun ac S=>?_
   refine S.iI 8 [] [(32,.v (GT.val (hM (el inner page.toNat) outer) ()))] 2 [] (.cons (aE fun w hw=>Zp w (el inner page.toNat) outer ke (bN (S.arg ox) hw)) .nil) fun ac w β S=>?_
   refine S.a9 9 [9] [] [(33,.v (bg ae.aY.1.b (ae.aY.1.off+page.toNat*2)))] (.cons (cp bE.ak page Tryz.underlying64) .nil) fun ac S=>?_
   refine ar.one (i:=10) (by kernel_rfl) ?_
   have aaL:ea (el k.aY page.toNat):=(af.el bE.ak page.toNat (by omega))
   refine id (S.y1 (α:=aQ) bE (t:=111) (k:=page.toNat) (j:=0) (off:=ae.aY.1.off+page.toNat*2) (v:=GT.val (hM (el inner page.toNat) outer) ()) (y:=(hM (el inner page.toNat) outer)) (q:=()) (fun _ _ _=>⟨ab,(P_ (S.arg ox) (el inner page.toNat)),fun _ h=>False.elim h⟩) fun w N kS eZ S up dC d28 Nf Bg=>?_)
   refine ar.last (by kernel_rfl) ?_
   have d31:=d28 _ (J.symm d22) (fun b _ h=>False.elim h) gE.sub
   replace gE:=gE.bw (J.symm d22) up
   clear up d28 bE Bg
   have KP:(k.aY.set page.toNat (hM (el inner page.toNat) outer)).length=k.aY.length:=List.length_set
   replace S:=S.z (σ':=⟨[(4,.p 0 0),(8,.p 1 0),(32,.v (GT.val (hM (el inner page.toNat) outer) ())),(33,.v (bg ae.aY.1.b (ae.aY.1.off+page.toNat*2)))],[[R (k.known.set page.toNat true).length ae.known.1,R k.aY.length ae.aY.1],ck bQ]⟩)
   replace S:=S.cast (σ':=⟨[(4,.p 0 0),(8,.p 1 0),(32,.v (GT.val (hM (el inner page.toNat) outer) ())),(33,.v (bg ae.aY.1.b (ae.aY.1.off+page.toNat*2)))],[[R (k.known.set page.toNat true).length ae.known.1,R (k.aY.set page.toNat (hM (el inner page.toNat) outer)).length ae.aY.1],ck bQ]⟩) (by rw [show(k.aY.set page.toNat (hM (el inner page.toNat) outer)).length=k.aY.length by omega])
   refine ar.done (by kernel_rfl) ?_ _
   refine S.ex fun S=>?_
   refine S.bq 8 .nil [GT.val (⟨(k.known.set page.toNat true),(k.aY.set page.toNat (hM (el inner page.toNat) outer))⟩:bQ) (⟨(ae.known.1,jZ),(ae.aY.1,eZ)⟩:fm)] fun ac w β S=>?_
   have gw:=l4 (x:=(⟨(k.known.set page.toNat true),(k.aY.set page.toNat (hM (el inner page.toNat) outer))⟩:bQ)) (p:=(⟨(ae.known.1,jZ),(ae.aY.1,eZ)⟩:fm)) gE dC d31
   exact cx S (show lf k inner outer page=(⟨(k.known.set page.toNat true),(k.aY.set page.toNat (hM (el inner page.toNat) outer))⟩:bQ) from KA) rfl gw
  refine S.bq 10 .nil [GT.val k ae] fun ac w β S=>?_
  have ie:=l4 (x:=k) (p:=ae) bJ bE d11
  exact cx S (show lf k inner outer page=k from KA) rfl ie
 have Io:=of_decide_eq_false dZ
 refine S.bq 17 .nil [GT.val k ae] fun ac w β S=>?_
 have gY:=l4 (x:=k) (p:=ae) bJ bE d11
 exact cx S (show lf k inner outer page=k from KA) rfl gY
theorem PQ (w0:World) (b:List aG) (bB:aC aG) (hb:bT w0 b bB) (tag:Int) (qY:a_ tag) (page:Int) (hE:a_ page):Calls Tryz.prog 174 [R b.length bB.1,aa tag,aa page].toArray w0 (dw ab w0 (cK b tag page:List aG)):=by
 refine Calls.run ab Tryz.func174 ?_
 intro ac β S
 have kD:b.length<=4194304:=af.le hb
 have aey:=qY.lo;have aee:=qY.hi
 have yl:=hE.lo;have yc:=hE.hi
 refine S.go 7 .nil fun ac w β S=>S.gR (α:=aG) (d:=9) fun ac w N ae br S up aD d4=>?_
 clear up d4
 refine S.go 10 .nil fun ac w β S=>?_
 refine dc (fun a5 ac w=>∃(k:Nat) (acc:List aG) (bL:_) (cW:_) (u:_) (N:_) (β:_),a5=b.length-k/\(k<=b.length)/\(acc=jB (b.take k) (fun e=>h7 e tag page))/\aj Tryz.prog Tryz.f174.ntmps w0 ab u N β ⟨[(0,.v (R b.length bB.1)),(1,.v (aa tag)),(2,.v (aa page)),(7,.v (R acc.length bL.1)),(8,.v (aa (k:Int)))],[]⟩ ac w/\ad w0 ab u N cW acc bL) _ ⟨0,([]:List aG),ae,br,_,_,_,rfl,cv,(by rfl),S.z,aD⟩ ?_
 clear S aD
 rintro f8 a5 eT ac w ⟨k,acc,bL,cW,u,N,β,rfl,hk,bt,S,ao⟩
 refine S.rs fun S=>?_
 have gD:acc.length<=k:=by rw [bt];exact Nat.le_trans (wK _ _) (List.length_take_le _ _)
 refine S.aI 9 .nil (decide ((k:Int)<(b.length:Int))) (fun ac w β c3 dY S=>?_) (fun ac w β c3 dY S=>?_)
 ·refine S.aI 15 (.cons (b6 (S.arg hb) k Tryz.underlying29) (.cons (cz (S.arg hb) 3 k 0 (aa (el b k).tag)) .nil)) ((el b k).tag != tag) (fun ac w β dZ hA S=>?_) (fun ac w β dZ hA S=>?_)
  ·refine S.go 17 (.cons (b6 (S.arg hb) k Tryz.underlying29) (.cons (dy (S.arg hb) 138 k) .nil)) fun ac w β S=>S.iL (α:=aG) (x:=(el b k)) (p:=()) (F:=ab) (af.el (S.arg hb) k (by omega)) (fun b h=>False.elim h) (fun b h=>False.elim h) (d:=37) fun ac w N nW pK S up gE d17=>?_
   replace ao:=ao.up up
   clear up d17
   refine S.k7 (α:=aG) ao gE.ak (fun _ _ h=>h) (by':=32) (d:=38) (lx:=acc.length) (ly:=1) rfl rfl (show _<=4194304 by simp only [List.length_append,List.length_cons,List.length_nil];omega) fun ac w N dg hq S up fU d22=>?_
   clear up d22
   refine S.ge 9 (.cons (cg (k:Int) 1) .nil) f8 fun ac w β S=>eT.of (b.length-(k+1)) _ _ (by omega) ⟨k+1,(acc++[(el b k)]),dg,hq,_,_,_,rfl,?_,?_,S.z,fU⟩
   ·exact cO
   ·clear S;(first|(rw [sJ (by omega) (Cl (by assumption) (by assumption)),bt];done)|(rw [pJ (by omega) (sC (by assumption)),bt];done)|(rw [pJ (by omega) (wE (by assumption)),bt];done))
  refine S.aI 10 (.cons (b6 (S.arg hb) k Tryz.underlying29) (.cons (cz (S.arg hb) 3 k 1 (aa (el b k).page)) .nil)) ((el b k).page != page) (fun ac w β gM jC S=>?_) (fun ac w β gM jC S=>?_)
  ·refine S.go 7 (.cons (b6 (S.arg hb) k Tryz.underlying29) (.cons (dy (S.arg hb) 138 k) .nil)) fun ac w β S=>S.iL (α:=aG) (x:=(el b k)) (p:=()) (F:=ab) (af.el (S.arg hb) k (by omega)) (fun b h=>False.elim h) (fun b h=>False.elim h) (d:=37) fun ac w N Ml uh S up fC d29=>?_
   replace ao:=ao.up up
   clear up d29
   refine S.k7 (α:=aG) ao fC.ak (fun _ _ h=>h) (by':=32) (d:=38) (lx:=acc.length) (ly:=1) rfl rfl (show _<=4194304 by simp only [List.length_append,List.length_cons,List.length_nil];omega) fun ac w N kN mF S up gw d34=>?_
   clear up d34
   refine S.ge 9 (.cons (cg (k:Int) 1) .nil) f8 fun ac w β S=>eT.of (b.length-(k+1)) _ _ (by omega) ⟨k+1,(acc++[(el b k)]),kN,mF,_,_,_,rfl,?_,?_,S.z,gw⟩
   ·exact cO
   ·clear S;(first|(rw [sJ (by omega) (Cl (by assumption) (by assumption)),bt];done)|(rw [pJ (by omega) (sC (by assumption)),bt];done)|(rw [pJ (by omega) (wE (by assumption)),bt];done))
  refine S.ge 9 (.cons (cg (k:Int) 1) .nil) f8 fun ac w β S=>eT.of (b.length-(k+1)) _ _ (by omega) ⟨k+1,acc,bL,cW,_,_,_,rfl,?_,?_,S.z,ao⟩
  ·exact cO
  ·clear S;(first|(rw [sJ (by omega) (Cl (by assumption) (by assumption)),bt];done)|(rw [pJ (by omega) (sC (by assumption)),bt];done)|(rw [pJ (by omega) (wE (by assumption)),bt];done))
 refine S.bq 13 .nil [R acc.length bL.1] fun ac w β S=>?_
 exact cx S (show cK b tag page=acc by clear S;(rw [bt,fb (by omega)];rfl)) rfl ao
theorem PW (w0:World) (b:List aG) (bB:aC aG) (hb:bT w0 b bB) (e:aG) (he:e7 e) (ft:b.length<=6):Calls Tryz.prog 228 [R b.length bB.1,GT.val e ()].toArray w0 (dw ab w0 (dE b e:List aG)):=by
 refine Calls.run ab Tryz.func228 ?_
 intro ac β S
 have hfl:(cK b e.tag e.page).length<=b.length:=wK _ _
 have aea:(cK b e.tag e.page++[e]).length=(cK b e.tag e.page).length+1:=by simp
 have kD:b.length<=4194304:=af.le hb
 refine S.go 7 .nil fun ac w β S=>?_
 refine dI ?_
 let bH:b1:=⟨[(0,.v (R b.length bB.1)),(3,.p 0 0)],[GT.cells e ()]⟩
 obtain⟨bA,bx,bS,S⟩:∃bA bx bS,aj Tryz.prog Tryz.f228.ntmps w0 ab bA bx bS bH ac w:=⟨_,_,_,S.z⟩
 refine mD (fun ac w=>∃iG k8 u N β,aj Tryz.prog Tryz.f228.ntmps w0 ab u N β (bH.dl [0,3] [(5,.v (R ((cK b e.tag e.page)++[e]).length iG.1))] 0 []) ac w/\ad w0 ab u N k8 ((cK b e.tag e.page)++[e]) iG) ?_ ?_
 ·refine S.dP (f:=10) 10 (by kernel_rfl) (by kernel_rfl) fun w S=>?_
  refine S.a9 0 [] [] [(6,.v (R b.length bB.1))] .nil fun ac S=>?_
  refine S.a9 1 [] [] [(7,.p 0 0)] .nil fun ac S=>?_
  refine S.a9 2 [] [] [(8,.v (aa e.tag))] .nil fun ac S=>?_
  refine S.a9 3 [] [] [(9,.p 0 1)] .nil fun ac S=>?_
  refine S.a9 4 [] [] [(10,.v (aa e.page))] .nil fun ac S=>?_
  refine S.a9 6 [] [] [(12,.v (GT.val e ()))] .nil fun ac S=>?_
  refine ar.m8 fun W aH=>?_
  refine ar.mP (l':=cu 10 [0,1,2,3,4,6]) (by kernel_rfl) ?_
  have I0 ac w iG k8 u N β (S:aj Tryz.prog Tryz.f228.ntmps w0 ab u N β (bH.dl [0,3] [(5,.v (R ((cK b e.tag e.page)++[e]).length iG.1))] 1 []) ac w) (gY:ad w0 ab u N k8 ((cK b e.tag e.page)++[e]) iG) (al:d_ bx bA N u) (aP:cS bH.aM.length bS β):W 0 (cu 10 [0,1,2,3,4,5,6,7,8,9]) ac w:=by
   exact nb aH ⟨rfl,iG,k8,_,_,_,S.z,gY⟩
  have Av ac w bX bU cG cC u N β (S:aj Tryz.prog Tryz.f228.ntmps w0 ab u N β (bH.dl [0,3] [(11,.v (R (cK b e.tag e.page).length bX.1)),(13,.v (R 1 cG.1))] 1 []) ac w) (ao:ad w0 ab u N bU (cK b e.tag e.page) bX) (bh:ad w0 ab u N cC ([e]) cG) (d41:J bU cC) (al:∀b,bx b->N b/\u.heap[b]? =bA.heap[b]? /\¬bU b) (aP:cS bH.aM.length bS β):W 2 (cu 10 [0,1,2,3,4,5,6,7]) ac w:=by
   refine en aH 8 ?_
   refine id (S.CT (α:=aG) ao bh.ak (fun _ _ h=>h) (by':=32) (d:=14) (lx:=(cK b e.tag e.page).length) (ly:=1) rfl rfl (by kernel_rfl) (show _<=4194304 by simp only [List.length_append,List.length_cons,List.length_nil];omega) fun ac w N BU Gx S up ql d45=>?_)
   have AF:=fun b h=>(⟨(up b (al b h).1 (al b h).2.2).1,(up b (al b h).1 (al b h).2.2).2.trans (al b h).2.1⟩:_/\_)
   refine ar.dh S AF aP fun bk=>?_
   replace bh:=bh.bw (J.symm d41) up
   clear up d45
   exact S.cZ aH [9] bk fun _ S=>I0 _ _ BU Gx _ _ _ S ql AF aP
  have I5 ac w bX bU u N β (S:aj Tryz.prog Tryz.f228.ntmps w0 ab u N β (bH.dl [0,3] [(11,.v (R (cK b e.tag e.page).length bX.1)),(12,.v (GT.val e ()))] 1 []) ac w) (ao:ad w0 ab u N bU (cK b e.tag e.page) bX) (al:∀b,bx b->N b/\u.heap[b]? =bA.heap[b]? /\¬bU b) (aP:cS bH.aM.length bS β):W 3 (cu 10 [0,1,2,3,4,5,6]) ac w:=by
   refine en aH 7 ?_
   refine id (S.pS (α:=aG) (x:=e) (p:=()) (F:=ab) he (fun b h=>False.elim h) (fun b h=>False.elim h) (d:=13) (by kernel_rfl) fun ac w N BV qz S up g6 d52=>?_)
   have vB:=fun b h=>(⟨(up b (al b h).1).1,(up b (al b h).1).2.trans (al b h).2.1,(al b h).2.2⟩:_/\_/\_)
   refine ar.dh S (fun b h=>⟨(vB b h).1,(vB b h).2.1⟩) aP fun bk=>?_
   have d54:=d52 _ (fun b _ h=>False.elim h) ao.sub
   replace ao:=ao.up up
   clear up d52
   exact S.cZ aH [] bk fun _ S=>Av _ _ bX bU BV qz _ _ _ S ao g6 d54 vB aP
  have I6 ac w cG cC u N β (S:aj Tryz.prog Tryz.f228.ntmps w0 ab u N β (bH.dl [0,3] [(6,.v (R b.length bB.1)),(8,.v (aa e.tag)),(10,.v (aa e.page)),(13,.v (R 1 cG.1))] 1 []) ac w) (bh:ad w0 ab u N cC ([e]) cG) (al:d_ bx bA N u) (aP:cS bH.aM.length bS β):W 3 (cu 10 [0,1,2,3,4,6,7]) ac w:=by
   refine en aH 5 ?_
   refine id (S.dz 11 (PQ w b bB (S.rd (S.arg hb)) e.tag (e7.tag (d:=e) he) e.page (e7.page (d:=e) he)) fun ac w N MS wX S up eu d59=>?_)
   have vC:=fun b h=>(⟨(up b (al b h).1).1,(up b (al b h).1).2.trans (al b h).2,d59 b (al b h).1⟩:_/\_/\_)
   refine ar.dh S (fun b h=>⟨(vC b h).1,(vC b h).2.1⟩) aP fun bk=>?_
   have d61:=J.w d59 bh.sub
   replace bh:=bh.up up
   clear up d59
   exact S.cZ aH [] bk fun _ S=>Av _ _ MS wX cG cC _ _ _ S eu bh (J.symm d61) vC aP
  have al:d_ bx bA bx bA:=fun b h=>⟨h,rfl⟩
  have aP:cS bH.aM.length bS bS:=fun _ _=>rfl
  refine gx aH 5 7 ?_ ?_
  ·refine id (S.dz 11 (PQ w b bB (S.rd (S.arg hb)) e.tag (e7.tag (d:=e) he) e.page (e7.page (d:=e) he)) fun ac w N MU GO S up LU d65=>?_)
   have vD:=fun b h=>(⟨(up b (al b h).1).1,(up b (al b h).1).2.trans (al b h).2,d65 b (al b h).1⟩:_/\_/\_)
   refine ar.dh S (fun b h=>⟨(vD b h).1,(vD b h).2.1⟩) aP fun bk=>?_
   clear up d65
   exact S.cZ aH [] bk fun _ S=>I5 _ _ MU GO _ _ _ S LU vD aP
  ·refine id (S.pS (α:=aG) (x:=e) (p:=()) (F:=ab) he (fun b h=>False.elim h) (fun b h=>False.elim h) (d:=13) (by kernel_rfl) fun ac w N tP wZ S up jY d70=>?_)
   have AJ:=fun b h=>(⟨(up b (al b h).1).1,(up b (al b h).1).2.trans (al b h).2⟩:_/\_)
   refine ar.dh S AJ aP fun bk=>?_
   clear up d70
   exact S.cZ aH [] bk fun _ S=>I6 _ _ tP wZ _ _ _ S jY AJ aP
 clear S
 rintro ac w ⟨iG,k8,u,N,β,S,gY⟩
 refine S.ex fun S=>?_
 refine S.aI 9 .nil (decide ((((cK b e.tag e.page)++[e]).length:Int)>6)) (fun ac w β ac1 aci S=>?_) (fun ac w β ac1 aci S=>?_)
 ·refine S.go 2 .nil fun ac w β S=>S.gR (α:=aG) (d:=18) fun ac w N rj w1 S up wg d77=>?_
  have d78:=J.w d77 gY.sub
  replace gY:=gY.up up
  clear up d77
  have apr:((((cK b e.tag e.page)++[e]).drop ((((cK b e.tag e.page)++[e]).length:Int)-6).toNat).take (((cK b e.tag e.page)++[e]).length-((((cK b e.tag e.page)++[e]).length:Int)-6).toNat)).length=((cK b e.tag e.page)++[e]).length-((((cK b e.tag e.page)++[e]).length:Int)-6).toNat:=by first|(simp;done)|(simp;omega)
  refine S.go 5 (.cons (g8 (((cK b e.tag e.page)++[e]).length:Int) 6) (.cons (GV (lo:=some (aa ((((cK b e.tag e.page)++[e]).length:Int)-6))) gY.ak (l:=((cK b e.tag e.page)++[e]).length) (a:=((((cK b e.tag e.page)++[e]).length:Int)-6).toNat) (b:=((cK b e.tag e.page)++[e]).length) rfl (.inr (congrArg (fun z=>some (aa z)) (show((((cK b e.tag e.page)++[e]).length:Int)-6)=((((((cK b e.tag e.page)++[e]).length:Int)-6).toNat:Nat):Int) by omega))) (.inl ⟨rfl,rfl⟩) (by omega) (by omega) Tryz.underlying29 (by kernel_rfl)) .nil)) fun ac w β S=>S.lC (α:=aG) wg (show GT.rd b7 _ _ ((((cK b e.tag e.page)++[e]).drop ((((cK b e.tag e.page)++[e]).length:Int)-6).toNat).take (((cK b e.tag e.page)++[e]).length-((((cK b e.tag e.page)++[e]).length:Int)-6).toNat)) ((iG.1.c9 ((((cK b e.tag e.page)++[e]).length:Int)-6).toNat 4,fun i=>iG.2 (((((cK b e.tag e.page)++[e]).length:Int)-6).toNat+i)):aC aG) from M4 gY.ak (a:=((((cK b e.tag e.page)++[e]).length:Int)-6).toNat) (b:=((cK b e.tag e.page)++[e]).length) (by omega) (by omega)) (fun _ _ h=>h) (by':=32) (d:=24) (lx:=0) (ly:=(((cK b e.tag e.page)++[e]).length-((((cK b e.tag e.page)++[e]).length:Int)-6).toNat:Nat)) (by omega) fun ac w N rk zk S up oG d83=>?_
  replace gY:=gY.bw d78 up
  clear up d83
  refine S.bq 10 .nil [R ((((cK b e.tag e.page)++[e]).drop ((((cK b e.tag e.page)++[e]).length:Int)-6).toNat).take (((cK b e.tag e.page)++[e]).length-((((cK b e.tag e.page)++[e]).length:Int)-6).toNat)).length rk.1] fun ac w β S=>?_
  exact cx S (show dE b e=((((cK b e.tag e.page)++[e]).drop ((((cK b e.tag e.page)++[e]).length:Int)-6).toNat).take (((cK b e.tag e.page)++[e]).length-((((cK b e.tag e.page)++[e]).length:Int)-6).toNat)) by clear S;(first|exact put_eq (by omega)|exact Mh (by omega))) rfl oG
 refine S.bq 10 .nil [R ((cK b e.tag e.page)++[e]).length iG.1] fun ac w β S=>?_
 exact cx S (show dE b e=((cK b e.tag e.page)++[e]) by clear S;(first|exact put_eq (by omega)|exact Mh (by omega))) rfl gY
theorem m6 {p:Prop} (h:p:=by clear S;(first|(rw [af5 (by assumption)];done)|(rw [af6 (by assumption)];done)|(rw [KR (by assumption) (by omega) (by omega) (by omega) (by assumption) lR,TP (by assumption)];first|done|rfl)|(rw [KR (by assumption) (by omega) (by omega) (by omega) (by assumption) lR,TQ (by assumption) (by assumption)];first|done|rfl)|(rw [KR (by assumption) (by omega) (by omega) (by omega) (by assumption) lR,TR (by assumption) (by assumption) (by assumption) (by assumption)];first|done|rfl))):p:=h
theorem ZZ (w0:World) (h:ah) (ai:cb) (F:au) (a1:GT.own b7 F w0 h ai) (eM:∀b,F b->b<w0.heap.size) (m:Int) (g:Int) (page:Int) (hE:a_ page) (need:Int) (io:Bool) (ft:io=false):Calls Tryz.prog 112 [GT.val h ai,R h.buf.length ai.buf.1,aa m,aa g,aa page,aa need,B io].toArray w0 (zp F ai w0 ((cL h m g page need io).1:ah) ((cL h m g page need io).2.1:Int) ((cL h m g page need io).2.2:Bool)):=by
 refine Calls.run F Tryz.func112 ?_
 intro ac β S
 have eb:ad w0 F w0 (fc w0.heap.size) F h ai:=⟨a1,eM,fun b hb=> .inr hb⟩
 obtain⟨cc,e4,e5,dT,bK,bY,bP,bo,_,_,_,_,d13,d14,d15,d16,d17,d18⟩:=jL eb
 have JG:io=false:=by assumption
 subst JG
 have yl:=hE.lo;have yc:=hE.hi
 refine S.go 10 .nil fun ac w β S=>?_
 refine S.pV ⟨[(1,.v (R h.buf.length ai.buf.1)),(2,.v (aa m)),(3,.v (aa g)),(4,.v (aa page)),(5,.v (aa need)),(6,.v (B false)),(7,.p 0 0),(14,.p 1 0),(56,.v (B ((((!(eD h))||(!(a3 m 0 ((h.I.length:Int)-1))))||(!(a3 g 0 (((el h.I m.toNat).U.length:Int)-1))))||((need != 1)&&(need != 2)))))],[[R h.mem.length ai.mem.1,R h.I.length ai.I.1,R h.buf.length ai.buf.1,R h.ag.length ai.ag.1],ck ah]⟩ ?_ ?_
 ·clear S;intro S
  refine S.bb 5 (.cons (aE fun w hw=>PT w h ai (bN (show GT.rd b7 _ _ h ai from⟨bK.ak,bY.ak,bP.ak,bo.ak⟩) hw)) .nil) (!(eD h)) (fun ac w β hj S=>?_) (fun ac w β hj S=>?_)
  ·have lj:=cn hj
   exact S.dF 30 .nil fun ac w β S=>⟨rfl,_,by rw [hj];exact S.z⟩
  have pe:=b_ hj
  have tc:=r_ pe
  refine S.bb 9 (.cons (g8 (h.I.length:Int) 1) (.cons (aE fun w hw=>fw w m 0 ((h.I.length:Int)-1)) .nil)) (!(a3 m 0 ((h.I.length:Int)-1))) (fun ac w β gM S=>?_) (fun ac w β gM S=>?_)
  ·have x4:=cn gM
   have p6:=dm x4
   exact S.dF 21 .nil fun ac w β S=>⟨rfl,_,by rw [hj,gM];exact S.z⟩
  have lP:=b_ gM
  have z8:=cU lP
  have Xq:(el h.I m.toNat).U.length<=4194304:=af.le (aU.U (d:=(el h.I m.toNat)) (af.el bY.ak m.toNat (by omega)))
  refine S.bb 13 (.cons (cp bY.ak m Tryz.underlying28) (.cons (cz bY.ak 71 m.toNat 3 (R (el h.I m.toNat).U.length (ai.I.2 m.toNat).U.1)) (.cons (g8 ((el h.I m.toNat).U.length:Int) 1) (.cons (aE fun w hw=>fw w g 0 (((el h.I m.toNat).U.length:Int)-1)) .nil)))) (!(a3 g 0 (((el h.I m.toNat).U.length:Int)-1))) (fun ac w β lk S=>?_) (fun ac w β lk S=>?_)
  ·have lQ:=cn lk
   have uU:=dm lQ
   exact S.dF 8 .nil fun ac w β S=>⟨rfl,_,by rw [hj,gM,lk];exact S.z⟩
  have mW:=b_ lk
  have rV:=cU mW
  refine S.aI 3 .nil (need != 1) (fun ac w β kA pd S=>?_) (fun ac w β kA pd S=>?_)
  ·exact S.dF 5 .nil fun ac w β S=>⟨rfl,_,by rw [hj,gM,lk,kA];exact S.z⟩
  exact S.dF 5 .nil fun ac w β S=>⟨rfl,_,by rw [hj,gM,lk,kA];exact S.z⟩
 clear S;intro ac w β S
 refine S.bb 1 .nil ((((!(eD h))||(!(a3 m 0 ((h.I.length:Int)-1))))||(!(a3 g 0 (((el h.I m.toNat).U.length:Int)-1))))||((need != 1)&&(need != 2))) (fun ac w β ja S=>?_) (fun ac w β ja S=>?_)
 ·refine S.bq 10 .nil [GT.val h ai,aa (-1),B false] fun ac w β S=>?_
  have lp:=fi (x:=h) (p:=ai) bK bY bP bo d13 d14 d15 d16 d17 d18
  exact B3 S (show(cL h m g page need false).1=h from m6) (show(cL h m g page need false).2.1=(-1) from m6) (show(cL h m g page need false).2.2=false from m6) rfl lp (show a_ (-1) from⟨by decide,by decide⟩) (de.g0 _)
 obtain⟨qR,kZ⟩:=nU ja
 obtain⟨pg,j_⟩:=nU qR
 obtain⟨tg,Ad⟩:=nU pg
 have p8:=b_ tg
 have Iq:=r_ p8
 have rX:=b_ Ad
 have DK:=cU rX
 have DO:=b_ j_
 have DL:=cU DO
 have Rf:=Ue kZ
 refine S.bb 32 (.cons (cp bY.ak m Tryz.underlying28) (.cons (cz bY.ak 71 m.toNat 3 (R (el h.I m.toNat).U.length (ai.I.2 m.toNat).U.1)) (.cons (cp (aU.U (d:=(el h.I m.toNat)) (af.el bY.ak m.toNat (by omega))) g Tryz.underlying71) (.cons (cz (aU.U (d:=(el h.I m.toNat)) (af.el bY.ak m.toNat (by omega))) 64 g.toNat 4 (R (el (el h.I m.toNat).U g.toNat).live.length ((ai.I.2 m.toNat).U.2 g.toNat).live.1)) (.cons (aE fun w hw=>ZP w (el (el h.I m.toNat).U g.toNat).live ((ai.I.2 m.toNat).U.2 g.toNat).live (bN (az.live (d:=(el (el h.I m.toNat).U g.toNat)) (af.el (aU.U (d:=(el h.I m.toNat)) (af.el bY.ak m.toNat (by omega))) g.toNat (by omega))) hw) page need) .nil))))) (!(cV (el (el h.I m.toNat).U g.toNat).live page need).2) (fun ac w β oo S=>?_) (fun ac w β oo S=>?_)
 ·have Ag:=cn oo
  refine S.bq 10 .nil [GT.val h ai,aa (-1),B false] fun ac w β S=>?_
  have qm:=fi (x:=h) (p:=ai) bK bY bP bo d13 d14 d15 d16 d17 d18
  exact B3 S (show(cL h m g page need false).1=h from m6) (show(cL h m g page need false).2.1=(-1) from m6) (show(cL h m g page need false).2.2=false from m6) rfl qm (show a_ (-1) from⟨by decide,by decide⟩) (de.g0 _)
 have IM:=b_ oo
 have acf:=tY IM
 refine S.go 18 (.cons (aE fun w hw=>ZM w m g) .nil) fun ac w β S=>?_
 refine il S (fun ac w=>∃(aL:List aO) (fu:aC aO) (kr:au) (u:_) (N:_) (β:_),(aL=(j5 h m (cV (el (el h.I m.toNat).U g.toNat).live page need).1 need).I)/\aj Tryz.prog Tryz.f112.ntmps w0 F u N β ⟨[(1,.v (R h.buf.length ai.buf.1)),(2,.v (aa m)),(3,.v (aa g)),(4,.v (aa page)),(5,.v (aa need)),(6,.v (B false)),(7,.p 0 0),(14,.p 1 0),(17,.v (aa (cV (el (el h.I m.toNat).U g.toNat).live page need).1)),(19,.v (aa (bO m g)))],[[R h.mem.length ai.mem.1,R aL.length fu.1,R h.buf.length ai.buf.1,R h.ag.length ai.ag.1],ck ah]⟩ ac w/\ad w0 F u N kr aL fu/\ad w0 F u N cc h.mem ai.mem/\ad w0 F u N e5 h.buf ai.buf/\ad w0 F u N dT h.ag ai.ag/\J cc kr/\J e5 kr/\J dT kr/\de ai.I.2 fu.2) ?_ ?_
 ·clear S;intro S
  refine S.aI 0 .nil (need==2) (fun ac w β uZ DM S=>?_) (fun ac w β uZ DM S=>?_)
  ·obtain⟨CP,tF,yY,XB⟩:=Q3 bY (k:=m.toNat) (show m.toNat<h.I.length by omega)
   have apm:=af.le tF.ak
   have agT:=tF.sub
   refine S.go 10 (.cons (cp bY.ak m Tryz.underlying28) (.cons (cz bY.ak 39 m.toNat 2 (R (el h.I m.toNat).aT.length (ai.I.2 m.toNat).aT.1)) (.cons (eI (aU.aT (d:=(el h.I m.toNat)) (af.el bY.ak m.toNat (by omega))) (l:=(el h.I m.toNat).aT.length) (k:=(cV (el (el h.I m.toNat).U g.toNat).live page need).1.toNat) (i:=(cV (el (el h.I m.toNat).U g.toNat).live page need).1) rfl (by omega) (by omega) Tryz.underlying39 (by kernel_rfl)) .nil))) fun ac w β S=>S.fM (α:=Bool) tF (t:=4) (k:=(cV (el (el h.I m.toNat).U g.toNat).live page need).1.toNat) (j:=0) (off:=(ai.I.2 m.toNat).aT.1.off+(cV (el (el h.I m.toNat).U g.toNat).live page need).1.toNat*1) (v:=B true) (y:=true) (q:=()) (fun _ _ _=>⟨ab,trivial,fun _ h=>False.elim h⟩) fun w N GP ri S up ho d73 sB T9=>?_
   have d76:=d73 _ (J.symm (J.part (J.symm d13) yY)) (fun b _ h=>False.elim h) bK.sub
   have d77:=d73 _ (J.symm (J.part d16 yY)) (fun b _ h=>False.elim h) bP.sub
   have d78:=d73 _ (J.symm (J.part d17 yY)) (fun b _ h=>False.elim h) bo.sub
   replace bK:=bK.bw (J.symm (J.part (J.symm d13) yY)) up
   replace bP:=bP.bw (J.symm (J.part d16 yY)) up
   replace bo:=bo.bw (J.symm (J.part d17 yY)) up
   clear d73 tF
   obtain⟨yH,q_,X2,ack⟩:=XB _ _ _ _ _ ab up ho sB (fun b _ h=>False.elim h) (by show [R _ _]=[R _ _];rw [List.length_set]) (fun b h=>T9 b (agT b h))
   have acm:=de.iK (de.g0 _) ack
   clear up ho T9
   have TN:(h.I.set m.toNat ({el h.I m.toNat with aT:=((el h.I m.toNat).aT.set (cV (el (el h.I m.toNat).U g.toNat).live page need).1.toNat true)})).length=h.I.length:=List.length_set
   obtain⟨G0,RQ⟩:∃z,z=h.I.set m.toNat ({el h.I m.toNat with aT:=((el h.I m.toNat).aT.set (cV (el (el h.I m.toNat).U g.toNat).live page need).1.toNat true)}):=⟨_,rfl⟩
   rw [←RQ] at q_ X2 TN
   obtain⟨apt,amL⟩:=FO RQ (show m.toNat<h.I.length by omega) List.length_set
   replace S:=S.z (σ':=⟨[(1,.v (R h.buf.length ai.buf.1)),(2,.v (aa m)),(3,.v (aa g)),(4,.v (aa page)),(5,.v (aa need)),(6,.v (B false)),(7,.p 0 0),(14,.p 1 0),(17,.v (aa (cV (el (el h.I m.toNat).U g.toNat).live page need).1)),(19,.v (aa (bO m g))),(89,.v (bg (ai.I.2 m.toNat).aT.1.b ((ai.I.2 m.toNat).aT.1.off+(cV (el (el h.I m.toNat).U g.toNat).live page need).1.toNat*1)))],[[R h.mem.length ai.mem.1,R h.I.length ai.I.1,R h.buf.length ai.buf.1,R h.ag.length ai.ag.1],ck ah]⟩)
   replace S:=S.cast (σ':=⟨[(1,.v (R h.buf.length ai.buf.1)),(2,.v (aa m)),(3,.v (aa g)),(4,.v (aa page)),(5,.v (aa need)),(6,.v (B false)),(7,.p 0 0),(14,.p 1 0),(17,.v (aa (cV (el (el h.I m.toNat).U g.toNat).live page need).1)),(19,.v (aa (bO m g))),(89,.v (bg (ai.I.2 m.toNat).aT.1.b ((ai.I.2 m.toNat).aT.1.off+(cV (el (el h.I m.toNat).U g.toNat).live page need).1.toNat*1)))],[[R h.mem.length ai.mem.1,R G0.length ai.I.1,R h.buf.length ai.buf.1,R h.ag.length ai.ag.1],ck ah]⟩) (by rw [show G0.length=h.I.length by omega])
   refine S.is fun S=>?_
   exact S.dF 1 .nil fun ac w β S=>⟨rfl,G0,(ai.I.1,yH),(Or e4 GP),_,_,_,(by clear S;first|exact Dp (by assumption) rfl|exact Dp (by assumption) (by assumption)|exact Qe (by assumption)),S.z,q_,bK,bP,bo,(J.symm (J.or (J.symm d13) (J.symm d76))),(J.symm (J.or d16 (J.symm d77))),(J.symm (J.or d17 (J.symm d78))),acm⟩
  exact S.dF 2 .nil fun ac w β S=>⟨rfl,h.I,ai.I,e4,_,_,_,(by clear S;first|exact Dp (by assumption) rfl|exact Dp (by assumption) (by assumption)|exact Qe (by assumption)),S.z,bY,bK,bP,bo,d13,(J.symm d16),(J.symm d17),(de.g0 _)⟩
 clear S bK bY bP bo
 rintro ac w ⟨aL,fu,kr,u,N,β,lR,S,eY,bK,bP,bo,d89,d90,d91,xT⟩
 have bn:=z1 lR (tY (by assumption)).1
 refine S.ex fun S=>?_
 have i92:e7 (ds h.buf (bO m g) page).1:=(QX bP.ak (bO m g) page)
 refine S.go 17 (.cons (aE fun w hw=>Zv w h.buf ai.buf (bN bP.ak hw) (bO m g) page) .nil) fun ac w β S=>?_
 refine S.pV ⟨[(2,.v (aa m)),(3,.v (aa g)),(4,.v (aa page)),(5,.v (aa need)),(6,.v (B false)),(7,.p 0 0),(14,.p 1 0),(17,.v (aa (cV (el (el h.I m.toNat).U g.toNat).live page need).1)),(19,.v (aa (bO m g))),(20,.p 2 0),(103,.v (B ((ds h.buf (bO m g) page).2&&(e8 (ds h.buf (bO m g) page).1.bd need))))],[[R h.mem.length ai.mem.1,R aL.length fu.1,R h.buf.length ai.buf.1,R h.ag.length ai.ag.1],ck ah,GT.cells (ds h.buf (bO m g) page).1 ()]⟩ ?_ ?_
 ·clear S;intro S
  refine S.bb 3 .nil (ds h.buf (bO m g) page).2 (fun ac w β IT S=>?_) (fun ac w β IT S=>?_)
  ·exact S.dF 6 (.cons (aE fun w hw=>Dg w (ds h.buf (bO m g) page).1.bd need) .nil) fun ac w β S=>⟨rfl,_,by rw [IT];exact S.z⟩
  exact S.dF 6 .nil fun ac w β S=>⟨rfl,_,by rw [IT];exact S.z⟩
 clear S;intro ac w β S
 refine S.bb 1 .nil ((ds h.buf (bO m g) page).2&&(e8 (ds h.buf (bO m g) page).1.bd need)) (fun ac w β x7 S=>?_) (fun ac w β x7 S=>?_)
 ·obtain⟨anY,IU⟩:=Ou x7
  have Ri:=qJ IU
  refine S.go 2 .nil fun ac w β S=>?_
  refine dI ?_
  let uf:b1:=⟨[(2,.v (aa m)),(3,.v (aa g)),(4,.v (aa page)),(5,.v (aa need)),(6,.v (B false)),(7,.p 0 0),(14,.p 1 0),(17,.v (aa (cV (el (el h.I m.toNat).U g.toNat).live page need).1)),(19,.v (aa (bO m g))),(20,.p 2 0),(103,.v (B true))],[[R h.mem.length ai.mem.1,R aL.length fu.1,R h.buf.length ai.buf.1,R h.ag.length ai.ag.1],ck ah,GT.cells (ds h.buf (bO m g) page).1 ()]⟩
  obtain⟨bA,bx,bS,S,bK,bP,bo,eY⟩:∃bA bx bS,aj Tryz.prog Tryz.f112.ntmps w0 F bA bx bS uf ac w/\ad w0 F bA bx cc h.mem ai.mem/\ad w0 F bA bx e5 h.buf ai.buf/\ad w0 F bA bx dT h.ag ai.ag/\ad w0 F bA bx kr aL fu:=⟨_,_,_,S.z,bK,bP,bo,eY⟩
  refine mD (fun ac w=>∃u N β,aj Tryz.prog Tryz.f112.ntmps w0 F u N β (uf.dl [2,3,4,5,6,7,17,19,20,103] [(15,.v (aa (ds h.buf (bO m g) page).1.host)),(16,.v (B true))] 2 [(1,[R h.mem.length ai.mem.1,R aL.length fu.1,R h.buf.length ai.buf.1,R h.ag.length ai.ag.1])]) ac w/\ad w0 F u N cc h.mem ai.mem/\ad w0 F u N e5 h.buf ai.buf/\ad w0 F u N dT h.ag ai.ag/\ad w0 F u N kr aL fu/\e7 (ds h.buf (bO m g) page).1) ?_ ?_
  ·refine S.dP (f:=6) 3 (by kernel_rfl) (by kernel_rfl) fun w S=>?_
   refine S.a9 0 [0] [] [(104,.v (GT.val (⟨h.mem,aL,h.buf,h.ag⟩:ah) (⟨ai.mem,fu,ai.buf,ai.ag⟩:cb)))] .nil fun ac S=>?_
   refine ar.m8 fun W aH=>?_
   refine ar.mP (l':=cu 6 [0]) (by kernel_rfl) ?_
   have Rp ac w u N β (S:aj Tryz.prog Tryz.f112.ntmps w0 F u N β (uf.dl [2,3,4,5,6,7,17,19,20,103] [(15,.v (aa (ds h.buf (bO m g) page).1.host)),(16,.v (B true))] 3 [(1,[R h.mem.length ai.mem.1,R aL.length fu.1,R h.buf.length ai.buf.1,R h.ag.length ai.ag.1])]) ac w) (bK:ad w0 F u N cc h.mem ai.mem) (bP:ad w0 F u N e5 h.buf ai.buf) (bo:ad w0 F u N dT h.ag ai.ag) (eY:ad w0 F u N kr aL fu) (i99:e7 (ds h.buf (bO m g) page).1):W 0 (cu 6 [0,1,2,3,4,5]) ac w:=by
    exact nb aH ⟨rfl,_,_,_,S.z,bK,bP,bo,eY,i99⟩
   have adb ac w u N β (S:aj Tryz.prog Tryz.f112.ntmps w0 F u N β (uf.dl [2,3,4,5,6,7,17,19,20,103] [(104,.v (GT.val (⟨h.mem,aL,h.buf,h.ag⟩:ah) (⟨ai.mem,fu,ai.buf,ai.ag⟩:cb))),(106,.v (aa (ds h.buf (bO m g) page).1.host))] 3 []) ac w) (bK:ad w0 F u N cc h.mem ai.mem) (bP:ad w0 F u N e5 h.buf ai.buf) (bo:ad w0 F u N dT h.ag ai.ag) (eY:ad w0 F u N kr aL fu) (i99:e7 (ds h.buf (bO m g) page).1) (al:d_ bx bA N u) (aP:cS uf.aM.length bS β):W 3 (cu 6 [0,1,2]) ac w:=by
    exact en aH 3 (S.wl aH [4,5] .nil fun _ _ _ S=>Rp _ _ _ _ _ S bK bP bo eY i99)
   have ade ac w u N β (S:aj Tryz.prog Tryz.f112.ntmps w0 F u N β (uf.dl [2,3,4,5,6,7,17,19,20,103] [(105,.p 2 2)] 3 [(1,[R h.mem.length ai.mem.1,R aL.length fu.1,R h.buf.length ai.buf.1,R h.ag.length ai.ag.1])]) ac w) (bK:ad w0 F u N cc h.mem ai.mem) (bP:ad w0 F u N e5 h.buf ai.buf) (bo:ad w0 F u N dT h.ag ai.ag) (eY:ad w0 F u N kr aL fu) (i99:e7 (ds h.buf (bO m g) page).1):W 3 (cu 6 [0,1,3]) ac w:=by
    exact en aH 2 (S.wl aH [4,5] .nil fun _ _ _ S=>Rp _ _ _ _ _ S bK bP bo eY i99)
   have adf ac w u N β (S:aj Tryz.prog Tryz.f112.ntmps w0 F u N β (uf.dl [2,3,4,5,6,7,17,19,20,103] [(104,.v (GT.val (⟨h.mem,aL,h.buf,h.ag⟩:ah) (⟨ai.mem,fu,ai.buf,ai.ag⟩:cb))),(105,.p 2 2)] 3 []) ac w) (bK:ad w0 F u N cc h.mem ai.mem) (bP:ad w0 F u N e5 h.buf ai.buf) (bo:ad w0 F u N dT h.ag ai.ag) (eY:ad w0 F u N kr aL fu) (al:d_ bx bA N u) (aP:cS uf.aM.length bS β):W 4 (cu 6 [0,1]) ac w:=by
    exact gx aH 2 3 (S.e0 aH al aP [] .nil fun _ _ _ S ca=>adb _ _ _ _ _ S bK bP bo eY i92 al ca) (S.wl aH [] .nil fun _ _ _ S=>ade _ _ _ _ _ S bK bP bo eY i92)
   rw [aH]
   exact S.cZ aH [1] (fun _=>S.tR) fun _ S=>adf _ _ _ _ _ S bK bP bo eY (fun _ h=>⟨h,rfl⟩) (fun _ _=>rfl)
  clear S bK bP bo eY
  rintro ac w ⟨u,N,β,S,bK,bP,bo,eY,i99⟩
  refine S.ex fun S=>?_
  refine S.bq 2 .nil [GT.val (⟨h.mem,aL,h.buf,h.ag⟩:ah) (⟨ai.mem,fu,ai.buf,ai.ag⟩:cb),aa (ds h.buf (bO m g) page).1.host,B true] fun ac w β S=>?_
  have Le:=fi (x:=(⟨h.mem,aL,h.buf,h.ag⟩:ah)) (p:=(⟨ai.mem,fu,ai.buf,ai.ag⟩:cb)) bK eY bP bo d89 d14 d15 (J.symm d90) (J.symm d91) d18
  exact B3 S (show(cL h m g page need false).1=(⟨h.mem,aL,h.buf,h.ag⟩:ah) from m6) (show(cL h m g page need false).2.1=(ds h.buf (bO m g) page).1.host from m6) (show(cL h m g page need false).2.2=true from m6) rfl Le (e7.host (d:=(ds h.buf (bO m g) page).1) i99) xT
 have i105:ea (aV (el (el aL m.toNat).tables g.toNat) page).1:=(CV (af.el (aU.tables (d:=(el aL m.toNat)) (af.el eY.ak m.toNat (by omega))) g.toNat (by omega)) page)
 refine S.go 26 (.cons (cp eY.ak m Tryz.underlying28) (.cons (cz eY.ak 72 m.toNat 7 (R (el aL m.toNat).tables.length (fu.2 m.toNat).tables.1)) (.cons (cp (aU.tables (d:=(el aL m.toNat)) (af.el eY.ak m.toNat (by omega))) g Tryz.underlying72) (.cons (dy (aU.tables (d:=(el aL m.toNat)) (af.el eY.ak m.toNat (by omega))) 165 g.toNat) (.cons (aE fun w hw=>PL w (el (el aL m.toNat).tables g.toNat) ((fu.2 m.toNat).tables.2 g.toNat) (bN (af.el (aU.tables (d:=(el aL m.toNat)) (af.el eY.ak m.toNat (by omega))) g.toNat (by omega)) hw) page) .nil))))) fun ac w β S=>?_
 refine S.pV ⟨[(2,.v (aa m)),(3,.v (aa g)),(4,.v (aa page)),(5,.v (aa need)),(6,.v (B false)),(7,.p 0 0),(14,.p 1 0),(17,.v (aa (cV (el (el h.I m.toNat).U g.toNat).live page need).1)),(19,.v (aa (bO m g))),(20,.p 2 0),(22,.p 3 0),(134,.v (B (((!(aV (el (el aL m.toNat).tables g.toNat) page).2)||((aV (el (el aL m.toNat).tables g.toNat) page).1.page==(-1)))||(!(e8 (aV (el (el aL m.toNat).tables g.toNat) page).1.bd need)))))],[[R h.mem.length ai.mem.1,R aL.length fu.1,R h.buf.length ai.buf.1,R h.ag.length ai.ag.1],ck ah,GT.cells (ds h.buf (bO m g) page).1 (),GT.cells (aV (el (el aL m.toNat).tables g.toNat) page).1 ()]⟩ ?_ ?_
 ·clear S;intro S
  refine S.bb 4 .nil (!(aV (el (el aL m.toNat).tables g.toNat) page).2) (fun ac w β x3 S=>?_) (fun ac w β x3 S=>?_)
  ·have IC:=cn x3
   exact S.dF 12 .nil fun ac w β S=>⟨rfl,_,by rw [x3];exact S.z⟩
  have anQ:=b_ x3
  refine S.aI 5 .nil ((aV (el (el aL m.toNat).tables g.toNat) page).1.page==(-1)) (fun ac w β Ac abR S=>?_) (fun ac w β Ac abR S=>?_)
  ·exact S.dF 7 .nil fun ac w β S=>⟨rfl,_,by rw [x3,Ac];exact S.z⟩
  exact S.dF 7 (.cons (aE fun w hw=>Dg w (aV (el (el aL m.toNat).tables g.toNat) page).1.bd need) .nil) fun ac w β S=>⟨rfl,_,by rw [x3,Ac];exact S.z⟩
 clear S;intro ac w β S
 refine S.bb 1 .nil (((!(aV (el (el aL m.toNat).tables g.toNat) page).2)||((aV (el (el aL m.toNat).tables g.toNat) page).1.page==(-1)))||(!(e8 (aV (el (el aL m.toNat).tables g.toNat) page).1.bd need))) (fun ac w β Rl S=>?_) (fun ac w β Rl S=>?_)
 ·have EV:=fi (x:=(⟨h.mem,aL,h.buf,h.ag⟩:ah)) (p:=(⟨ai.mem,fu,ai.buf,ai.ag⟩:cb)) bK eY bP bo d89 d14 d15 (J.symm d90) (J.symm d91) d18
  obtain⟨av,hn⟩:∃z,z=(gm (⟨h.mem,aL,h.buf,h.ag⟩:ah) m (cV (el (el h.I m.toNat).U g.toNat).live page need).1 need):=⟨_,rfl⟩
  have aft:=K1 hn (z1 lR (tY (by assumption)).1).1
  try dsimp only at aft
  refine S.go 7 .nil fun ac w β S=>S.zm (d:=139) EV hn (ZX w (⟨h.mem,aL,h.buf,h.ag⟩:ah) (⟨ai.mem,fu,ai.buf,ai.ag⟩:cb) (j1 [cc,kr,e5,dT]) (S.fX EV) (fun b hb=>(S.sep b (EV.sub b hb)).1) m (cV (el (el h.I m.toNat).U g.toNat).live page need).1 need (by first|omega|exact(z1 lR (tY (by assumption)).1).1) (by first|omega|exact(z1 lR (tY (by assumption)).1).1) (by first|omega|exact(z1 lR (tY (by assumption)).1).1)) fun ac w N dv ak4 S up jI d116 Ik=>?_
  clear up d116 EV
  obtain⟨wR,qw,NP,ry,jt,ib,sl,ic,_,_,_,_,d131,_,d133,d134,d135,_⟩:=jL jI
  have abY:=de.iK xT Ik
  refine S.go 4 .nil fun ac w β S=>?_
  refine dI ?_
  refine S.dP (f:=36) 35 (by kernel_rfl) (by kernel_rfl) fun w S=>?_
  refine S.hm 3 [0,1,2,3,4,5,6,7,8,9,10,11,12,13,14,15,16,17,18,19,20,21,22,23,24,25,26,27,28,29,30,31,32] [] [(145,.v (R (el av.I m.toNat).tables.length (dv.I.2 m.toNat).tables.1)),(146,.v (aa g)),(155,.v (GT.val (el (el av.I m.toNat).tables g.toNat) ((dv.I.2 m.toNat).tables.2 g.toNat))),(165,.v (R (el (el av.I m.toNat).U g.toNat).live.length ((dv.I.2 m.toNat).U.2 g.toNat).live.1)),(171,.v (R (el av.I m.toNat).outer.length (dv.I.2 m.toNat).outer.1)),(172,.v (aa page))] (.cons (cp ib.ak m Tryz.underlying28) (.cons (cz ib.ak 72 m.toNat 7 (R (el av.I m.toNat).tables.length (dv.I.2 m.toNat).tables.1)) (.cons (cp ib.ak m Tryz.underlying28) (.cons (cz ib.ak 72 m.toNat 7 (R (el av.I m.toNat).tables.length (dv.I.2 m.toNat).tables.1)) (.cons (cp (aU.tables (d:=(el av.I m.toNat)) (af.el ib.ak m.toNat (by omega))) g Tryz.underlying72) (.cons (dy (aU.tables (d:=(el av.I m.toNat)) (af.el ib.ak m.toNat (by omega))) 165 g.toNat) (.cons (cp ib.ak m Tryz.underlying28) (.cons (cz ib.ak 71 m.toNat 3 (R (el av.I m.toNat).U.length (dv.I.2 m.toNat).U.1)) (.cons (cp (aU.U (d:=(el av.I m.toNat)) (af.el ib.ak m.toNat (by omega))) g Tryz.underlying71) (.cons (cz (aU.U (d:=(el av.I m.toNat)) (af.el ib.ak m.toNat (by omega))) 64 g.toNat 4 (R (el (el av.I m.toNat).U g.toNat).live.length ((dv.I.2 m.toNat).U.2 g.toNat).live.1)) (.cons (cp ib.ak m Tryz.underlying28) (.cons (cz ib.ak 64 m.toNat 0 (R (el av.I m.toNat).outer.length (dv.I.2 m.toNat).outer.1)) .nil)))))))))))) fun ac S=>?_
  refine ar.one (i:=33) (by kernel_rfl) ?_
  refine id (S.dz 173 (Zu w (el (el av.I m.toNat).tables g.toNat) ((dv.I.2 m.toNat).tables.2 g.toNat) (S.rd (af.el (aU.tables (d:=(el av.I m.toNat)) (af.el ib.ak m.toNat (by omega))) g.toNat (by omega))) (el (el av.I m.toNat).U g.toNat).live ((dv.I.2 m.toNat).U.2 g.toNat).live (S.rd (az.live (d:=(el (el av.I m.toNat).U g.toNat)) (af.el (aU.U (d:=(el av.I m.toNat)) (af.el ib.ak m.toNat (by omega))) g.toNat (by omega)))) (el av.I m.toNat).outer (dv.I.2 m.toNat).outer (S.rd (aU.outer (d:=(el av.I m.toNat)) (af.el ib.ak m.toNat (by omega)))) page) fun ac w N Ve NT S up tB d141=>?_)
  refine ar.next S up (by kernel_rfl) ?_
  have d142:=J.w d141 jt.sub
  have d143:=J.w d141 ib.sub
  have d145:=J.w d141 ic.sub
  replace jt:=jt.up up
  replace ib:=ib.up up
  replace sl:=sl.up up
  replace ic:=ic.up up
  clear up d141
  refine S.a9 34 [34] [] [(174,.v (bg (dv.I.2 m.toNat).tables.1.b ((dv.I.2 m.toNat).tables.1.off+g.toNat*2)))] (.cons (cp (aU.tables (d:=(el av.I m.toNat)) (af.el ib.ak m.toNat (by omega))) g Tryz.underlying72) .nil) fun ac S=>?_
  refine ar.one (i:=35) (by kernel_rfl) ?_
  obtain⟨CJ,q7,yV,Xc⟩:=Q6 ib (k:=m.toNat) (show m.toNat<av.I.length by omega)
  have afA:=af.le q7.ak
  have agp:=q7.sub
  refine id (S.kO (α:=bQ) q7 (t:=165) (k:=g.toNat) (off:=(dv.I.2 m.toNat).tables.1.off+g.toNat*2) tB (J.symm (J.symm (J.part d143 yV))) fun w N wS apK S up EY d155 Na ES=>?_)
  refine ar.last (by kernel_rfl) ?_
  have d158:=d155 _ (J.symm (J.part (J.symm d131) yV)) d142 jt.sub
  have d160:=d155 _ (J.symm (J.part d135 yV)) d145 ic.sub
  replace jt:=jt.bw (J.symm (J.part (J.symm d131) yV)) up
  replace sl:=sl.bw (J.symm (J.part d134 yV)) up
  replace ic:=ic.bw (J.symm (J.part d135 yV)) up
  clear d155 q7
  obtain⟨oJ,iC,XR,ab6⟩:=Xc _ _ _ _ _ NT up EY Na d143 (by show [R _ _]=[R _ _];rw [List.length_set]) (fun b h=>ES b (agp b h))
  have ab7:=de.iK abY ab6
  clear up EY ES
  have afB:(av.I.set m.toNat ({el av.I m.toNat with tables:=((el av.I m.toNat).tables.set g.toNat (lf (el (el av.I m.toNat).tables g.toNat) (el (el av.I m.toNat).U g.toNat).live (el av.I m.toNat).outer page))})).length=av.I.length:=List.length_set
  obtain⟨dq,RD⟩:∃z,z=av.I.set m.toNat ({el av.I m.toNat with tables:=((el av.I m.toNat).tables.set g.toNat (lf (el (el av.I m.toNat).tables g.toNat) (el (el av.I m.toNat).U g.toNat).live (el av.I m.toNat).outer page))}):=⟨_,rfl⟩
  rw [←RD] at iC XR afB
  obtain⟨aoO,amx⟩:=y4 RD (show m.toNat<av.I.length by omega) List.length_set
  replace S:=S.z (σ':=⟨[(2,.v (aa m)),(3,.v (aa g)),(4,.v (aa page)),(6,.v (B false)),(7,.p 0 0),(14,.p 1 0),(19,.v (aa (bO m g))),(20,.p 2 0),(22,.p 3 0),(173,.v (GT.val (lf (el (el av.I m.toNat).tables g.toNat) (el (el av.I m.toNat).U g.toNat).live (el av.I m.toNat).outer page) Ve)),(174,.v (bg (dv.I.2 m.toNat).tables.1.b ((dv.I.2 m.toNat).tables.1.off+g.toNat*2)))],[[R av.mem.length dv.mem.1,R av.I.length dv.I.1,R av.buf.length dv.buf.1,R av.ag.length dv.ag.1],ck ah,GT.cells (ds h.buf (bO m g) page).1 (),GT.cells (aV (el (el aL m.toNat).tables g.toNat) page).1 ()]⟩)
  replace S:=S.cast (σ':=⟨[(2,.v (aa m)),(3,.v (aa g)),(4,.v (aa page)),(6,.v (B false)),(7,.p 0 0),(14,.p 1 0),(19,.v (aa (bO m g))),(20,.p 2 0),(22,.p 3 0),(173,.v (GT.val (lf (el (el av.I m.toNat).tables g.toNat) (el (el av.I m.toNat).U g.toNat).live (el av.I m.toNat).outer page) Ve)),(174,.v (bg (dv.I.2 m.toNat).tables.1.b ((dv.I.2 m.toNat).tables.1.off+g.toNat*2)))],[[R av.mem.length dv.mem.1,R dq.length dv.I.1,R av.buf.length dv.buf.1,R av.ag.length dv.ag.1],ck ah,GT.cells (ds h.buf (bO m g) page).1 (),GT.cells (aV (el (el aL m.toNat).tables g.toNat) page).1 ()]⟩) (by rw [show dq.length=av.I.length by omega])
  refine ar.done (by kernel_rfl) ?_ _
  refine S.ex fun S=>?_
  have i171:ea (aV (el (el dq m.toNat).tables g.toNat) page).1:=(CV (af.el (aU.tables (d:=(el dq m.toNat)) (af.el iC.ak m.toNat (by omega))) g.toNat (by omega)) page)
  refine S.go 42 (.cons (cp iC.ak m Tryz.underlying28) (.cons (cz iC.ak 72 m.toNat 7 (R (el dq m.toNat).tables.length ((dv.I.1,oJ).2 m.toNat).tables.1)) (.cons (cp (aU.tables (d:=(el dq m.toNat)) (af.el iC.ak m.toNat (by omega))) g Tryz.underlying72) (.cons (dy (aU.tables (d:=(el dq m.toNat)) (af.el iC.ak m.toNat (by omega))) 165 g.toNat) (.cons (aE fun w hw=>PL w (el (el dq m.toNat).tables g.toNat) (((dv.I.1,oJ).2 m.toNat).tables.2 g.toNat) (bN (af.el (aU.tables (d:=(el dq m.toNat)) (af.el iC.ak m.toNat (by omega))) g.toNat (by omega)) hw) page) (.cons (fT (s:=Instr.build 138 [(0,aa (bO m g)),(1,aa page),(2,aa (aV (el (el dq m.toNat).tables g.toNat) page).1.page),(3,aa (aV (el (el dq m.toNat).tables g.toNat) page).1.bd)].toArray) (v:= .agg [aa (bO m g),aa page,aa (aV (el (el dq m.toNat).tables g.toNat) page).1.page,aa (aV (el (el dq m.toNat).tables g.toNat) page).1.bd].toArray) (fun w=>by kernel_rfl)) .nil)))))) fun ac w β S=>S.cN (r:=dE av.buf (⟨(bO m g),page,(aV (el (el dq m.toNat).tables g.toNat) page).1.page,(aV (el (el dq m.toNat).tables g.toNat) page).1.bd⟩:aG)) (d:=205) (PW w av.buf dv.buf (S.rd sl.ak) (⟨(bO m g),page,(aV (el (el dq m.toNat).tables g.toNat) page).1.page,(aV (el (el dq m.toNat).tables g.toNat) page).1.bd⟩:aG) (show e7 (⟨(bO m g),page,(aV (el (el dq m.toNat).tables g.toNat) page).1.page,(aV (el (el dq m.toNat).tables g.toNat) page).1.bd⟩:aG) from⟨(FZ m g),hE,(ea.page (d:=(aV (el (el dq m.toNat).tables g.toNat) page).1) i171),(ea.bd (d:=(aV (el (el dq m.toNat).tables g.toNat) page).1) i171)⟩) (by(first|omega|(dsimp only;omega)))) fun ac w N nk wT S up ln d175=>?_
  have d176:=J.w d175 jt.sub
  have d178:=J.w d175 ic.sub
  have d179:=J.w d175 iC.sub
  replace jt:=jt.up up
  replace ic:=ic.up up
  replace iC:=iC.up up
  clear up d175
  refine S.go 5 .nil fun ac w β S=>?_
  refine dI ?_
  let ub:b1:=⟨[(7,.p 0 0),(14,.p 1 0),(22,.p 3 0)],[[R av.mem.length dv.mem.1,R dq.length dv.I.1,R (dE av.buf (⟨(bO m g),page,(aV (el (el dq m.toNat).tables g.toNat) page).1.page,(aV (el (el dq m.toNat).tables g.toNat) page).1.bd⟩:aG)).length nk.1,R av.ag.length dv.ag.1],ck ah,[aa (bO m g),aa page,aa (aV (el (el dq m.toNat).tables g.toNat) page).1.page,aa (aV (el (el dq m.toNat).tables g.toNat) page).1.bd],GT.cells (aV (el (el dq m.toNat).tables g.toNat) page).1 ()]⟩
  obtain⟨bA,bx,bS,S,jt,ic,iC,ln⟩:∃bA bx bS,aj Tryz.prog Tryz.f112.ntmps w0 F bA bx bS ub ac w/\ad w0 F bA bx wR av.mem dv.mem/\ad w0 F bA bx ry av.ag dv.ag/\ad w0 F bA bx (Or qw wS) dq (dv.I.1,oJ)/\ad w0 F bA bx wT (dE av.buf (⟨(bO m g),page,(aV (el (el dq m.toNat).tables g.toNat) page).1.page,(aV (el (el dq m.toNat).tables g.toNat) page).1.bd⟩:aG)) nk:=⟨_,_,_,S.z,jt,ic,iC,ln⟩
  refine mD (fun ac w=>∃u N β,aj Tryz.prog Tryz.f112.ntmps w0 F u N β (ub.dl [7,22] [(15,.v (aa (aV (el (el dq m.toNat).tables g.toNat) page).1.page)),(16,.v (B true))] 2 [(1,[R av.mem.length dv.mem.1,R dq.length dv.I.1,R (dE av.buf (⟨(bO m g),page,(aV (el (el dq m.toNat).tables g.toNat) page).1.page,(aV (el (el dq m.toNat).tables g.toNat) page).1.bd⟩:aG)).length nk.1,R av.ag.length dv.ag.1])]) ac w/\ad w0 F u N wR av.mem dv.mem/\ad w0 F u N ry av.ag dv.ag/\ad w0 F u N (Or qw wS) dq (dv.I.1,oJ)/\ad w0 F u N wT (dE av.buf (⟨(bO m g),page,(aV (el (el dq m.toNat).tables g.toNat) page).1.page,(aV (el (el dq m.toNat).tables g.toNat) page).1.bd⟩:aG)) nk/\ea (aV (el (el dq m.toNat).tables g.toNat) page).1) ?_ ?_
  ·refine S.dP (f:=6) 3 (by kernel_rfl) (by kernel_rfl) fun w S=>?_
   refine S.a9 0 [0] [] [(207,.v (GT.val (⟨av.mem,dq,(dE av.buf (⟨(bO m g),page,(aV (el (el dq m.toNat).tables g.toNat) page).1.page,(aV (el (el dq m.toNat).tables g.toNat) page).1.bd⟩:aG)),av.ag⟩:ah) (⟨dv.mem,(dv.I.1,oJ),nk,dv.ag⟩:cb)))] .nil fun ac S=>?_
   refine ar.m8 fun W aH=>?_
   refine ar.mP (l':=cu 6 [0]) (by kernel_rfl) ?_
   have Rs ac w u N β (S:aj Tryz.prog Tryz.f112.ntmps w0 F u N β (ub.dl [7,22] [(15,.v (aa (aV (el (el dq m.toNat).tables g.toNat) page).1.page)),(16,.v (B true))] 4 [(1,[R av.mem.length dv.mem.1,R dq.length dv.I.1,R (dE av.buf (⟨(bO m g),page,(aV (el (el dq m.toNat).tables g.toNat) page).1.page,(aV (el (el dq m.toNat).tables g.toNat) page).1.bd⟩:aG)).length nk.1,R av.ag.length dv.ag.1])]) ac w) (jt:ad w0 F u N wR av.mem dv.mem) (ic:ad w0 F u N ry av.ag dv.ag) (iC:ad w0 F u N (Or qw wS) dq (dv.I.1,oJ)) (ln:ad w0 F u N wT (dE av.buf (⟨(bO m g),page,(aV (el (el dq m.toNat).tables g.toNat) page).1.page,(aV (el (el dq m.toNat).tables g.toNat) page).1.bd⟩:aG)) nk) (i181:ea (aV (el (el dq m.toNat).tables g.toNat) page).1):W 0 (cu 6 [0,1,2,3,4,5]) ac w:=by
    exact nb aH ⟨rfl,_,_,_,S.z,jt,ic,iC,ln,i181⟩
   have adt ac w u N β (S:aj Tryz.prog Tryz.f112.ntmps w0 F u N β (ub.dl [7,22] [(207,.v (GT.val (⟨av.mem,dq,(dE av.buf (⟨(bO m g),page,(aV (el (el dq m.toNat).tables g.toNat) page).1.page,(aV (el (el dq m.toNat).tables g.toNat) page).1.bd⟩:aG)),av.ag⟩:ah) (⟨dv.mem,(dv.I.1,oJ),nk,dv.ag⟩:cb))),(209,.v (aa (aV (el (el dq m.toNat).tables g.toNat) page).1.page))] 4 []) ac w) (jt:ad w0 F u N wR av.mem dv.mem) (ic:ad w0 F u N ry av.ag dv.ag) (iC:ad w0 F u N (Or qw wS) dq (dv.I.1,oJ)) (ln:ad w0 F u N wT (dE av.buf (⟨(bO m g),page,(aV (el (el dq m.toNat).tables g.toNat) page).1.page,(aV (el (el dq m.toNat).tables g.toNat) page).1.bd⟩:aG)) nk) (i181:ea (aV (el (el dq m.toNat).tables g.toNat) page).1) (al:d_ bx bA N u) (aP:cS ub.aM.length bS β):W 3 (cu 6 [0,1,2]) ac w:=by
    exact en aH 3 (S.wl aH [4,5] .nil fun _ _ _ S=>Rs _ _ _ _ _ S jt ic iC ln i181)
   have adu ac w u N β (S:aj Tryz.prog Tryz.f112.ntmps w0 F u N β (ub.dl [7,22] [(208,.p 3 0)] 4 [(1,[R av.mem.length dv.mem.1,R dq.length dv.I.1,R (dE av.buf (⟨(bO m g),page,(aV (el (el dq m.toNat).tables g.toNat) page).1.page,(aV (el (el dq m.toNat).tables g.toNat) page).1.bd⟩:aG)).length nk.1,R av.ag.length dv.ag.1])]) ac w) (jt:ad w0 F u N wR av.mem dv.mem) (ic:ad w0 F u N ry av.ag dv.ag) (iC:ad w0 F u N (Or qw wS) dq (dv.I.1,oJ)) (ln:ad w0 F u N wT (dE av.buf (⟨(bO m g),page,(aV (el (el dq m.toNat).tables g.toNat) page).1.page,(aV (el (el dq m.toNat).tables g.toNat) page).1.bd⟩:aG)) nk) (i181:ea (aV (el (el dq m.toNat).tables g.toNat) page).1):W 3 (cu 6 [0,1,3]) ac w:=by
    exact en aH 2 (S.wl aH [4,5] .nil fun _ _ _ S=>Rs _ _ _ _ _ S jt ic iC ln i181)
   have adv ac w u N β (S:aj Tryz.prog Tryz.f112.ntmps w0 F u N β (ub.dl [7,22] [(207,.v (GT.val (⟨av.mem,dq,(dE av.buf (⟨(bO m g),page,(aV (el (el dq m.toNat).tables g.toNat) page).1.page,(aV (el (el dq m.toNat).tables g.toNat) page).1.bd⟩:aG)),av.ag⟩:ah) (⟨dv.mem,(dv.I.1,oJ),nk,dv.ag⟩:cb))),(208,.p 3 0)] 4 []) ac w) (jt:ad w0 F u N wR av.mem dv.mem) (ic:ad w0 F u N ry av.ag dv.ag) (iC:ad w0 F u N (Or qw wS) dq (dv.I.1,oJ)) (ln:ad w0 F u N wT (dE av.buf (⟨(bO m g),page,(aV (el (el dq m.toNat).tables g.toNat) page).1.page,(aV (el (el dq m.toNat).tables g.toNat) page).1.bd⟩:aG)) nk) (al:d_ bx bA N u) (aP:cS ub.aM.length bS β):W 4 (cu 6 [0,1]) ac w:=by
    exact gx aH 2 3 (S.e0 aH al aP [] .nil fun _ _ _ S ca=>adt _ _ _ _ _ S jt ic iC ln i171 al ca) (S.wl aH [] .nil fun _ _ _ S=>adu _ _ _ _ _ S jt ic iC ln i171)
   rw [aH]
   exact S.cZ aH [1] (fun _=>S.tR) fun _ S=>adv _ _ _ _ _ S jt ic iC ln (fun _ h=>⟨h,rfl⟩) (fun _ _=>rfl)
  clear S jt ic iC ln
  rintro ac w ⟨u,N,β,S,jt,ic,iC,ln,i181⟩
  refine S.ex fun S=>?_
  refine S.bq 2 .nil [GT.val (⟨av.mem,dq,(dE av.buf (⟨(bO m g),page,(aV (el (el dq m.toNat).tables g.toNat) page).1.page,(aV (el (el dq m.toNat).tables g.toNat) page).1.bd⟩:aG)),av.ag⟩:ah) (⟨dv.mem,(dv.I.1,oJ),nk,dv.ag⟩:cb),aa (aV (el (el dq m.toNat).tables g.toNat) page).1.page,B true] fun ac w β S=>?_
  have iR:=fi (x:=(⟨av.mem,dq,(dE av.buf (⟨(bO m g),page,(aV (el (el dq m.toNat).tables g.toNat) page).1.page,(aV (el (el dq m.toNat).tables g.toNat) page).1.bd⟩:aG)),av.ag⟩:ah)) (p:=(⟨dv.mem,(dv.I.1,oJ),nk,dv.ag⟩:cb)) jt iC ln ic (J.symm (J.or (J.symm d131) (J.symm d158))) d176 d133 d179 (J.symm (J.symm (J.or d135 (J.symm d160)))) (J.symm d178)
  exact B3 S (show(cL h m g page need false).1=(⟨av.mem,dq,(dE av.buf (⟨(bO m g),page,(aV (el (el dq m.toNat).tables g.toNat) page).1.page,(aV (el (el dq m.toNat).tables g.toNat) page).1.bd⟩:aG)),av.ag⟩:ah) from m6) (show(cL h m g page need false).2.1=(aV (el (el dq m.toNat).tables g.toNat) page).1.page from m6) (show(cL h m g page need false).2.2=true from m6) rfl iR (ea.page (d:=(aV (el (el dq m.toNat).tables g.toNat) page).1) i181) ab7
 obtain⟨acN,acO⟩:=nU Rl
 obtain⟨acP,acQ⟩:=nU acN
 have anU:=b_ acP
 have anv:¬((aV (el (el aL m.toNat).tables g.toNat) page).1.page=(-1)):=ne_of_beq_false acQ
 have acR:=b_ acO
 have anw:=qJ acR
 refine S.go 26 (.cons (fT (s:=Instr.build 138 [(0,aa (bO m g)),(1,aa page),(2,aa (aV (el (el aL m.toNat).tables g.toNat) page).1.page),(3,aa (aV (el (el aL m.toNat).tables g.toNat) page).1.bd)].toArray) (v:= .agg [aa (bO m g),aa page,aa (aV (el (el aL m.toNat).tables g.toNat) page).1.page,aa (aV (el (el aL m.toNat).tables g.toNat) page).1.bd].toArray) (fun w=>by kernel_rfl)) .nil) fun ac w β S=>S.cN (r:=dE h.buf (⟨(bO m g),page,(aV (el (el aL m.toNat).tables g.toNat) page).1.page,(aV (el (el aL m.toNat).tables g.toNat) page).1.bd⟩:aG)) (d:=205) (PW w h.buf ai.buf (S.rd bP.ak) (⟨(bO m g),page,(aV (el (el aL m.toNat).tables g.toNat) page).1.page,(aV (el (el aL m.toNat).tables g.toNat) page).1.bd⟩:aG) (show e7 (⟨(bO m g),page,(aV (el (el aL m.toNat).tables g.toNat) page).1.page,(aV (el (el aL m.toNat).tables g.toNat) page).1.bd⟩:aG) from⟨(FZ m g),hE,(ea.page (d:=(aV (el (el aL m.toNat).tables g.toNat) page).1) i105),(ea.bd (d:=(aV (el (el aL m.toNat).tables g.toNat) page).1) i105)⟩) (by(first|omega|(dsimp only;omega)))) fun ac w N nm wU S up kH d198=>?_
 have d199:=J.w d198 bK.sub
 have d201:=J.w d198 bo.sub
 have d202:=J.w d198 eY.sub
 replace bK:=bK.up up
 replace bo:=bo.up up
 replace eY:=eY.up up
 clear up d198
 refine S.go 5 .nil fun ac w β S=>?_
 refine dI ?_
 let ud:b1:=⟨[(7,.p 0 0),(14,.p 1 0),(22,.p 3 0)],[[R h.mem.length ai.mem.1,R aL.length fu.1,R (dE h.buf (⟨(bO m g),page,(aV (el (el aL m.toNat).tables g.toNat) page).1.page,(aV (el (el aL m.toNat).tables g.toNat) page).1.bd⟩:aG)).length nm.1,R h.ag.length ai.ag.1],ck ah,[aa (bO m g),aa page,aa (aV (el (el aL m.toNat).tables g.toNat) page).1.page,aa (aV (el (el aL m.toNat).tables g.toNat) page).1.bd],GT.cells (aV (el (el aL m.toNat).tables g.toNat) page).1 ()]⟩
 obtain⟨bA,bx,bS,S,bK,bo,eY,kH⟩:∃bA bx bS,aj Tryz.prog Tryz.f112.ntmps w0 F bA bx bS ud ac w/\ad w0 F bA bx cc h.mem ai.mem/\ad w0 F bA bx dT h.ag ai.ag/\ad w0 F bA bx kr aL fu/\ad w0 F bA bx wU (dE h.buf (⟨(bO m g),page,(aV (el (el aL m.toNat).tables g.toNat) page).1.page,(aV (el (el aL m.toNat).tables g.toNat) page).1.bd⟩:aG)) nm:=⟨_,_,_,S.z,bK,bo,eY,kH⟩
 refine mD (fun ac w=>∃u N β,aj Tryz.prog Tryz.f112.ntmps w0 F u N β (ud.dl [7,22] [(15,.v (aa (aV (el (el aL m.toNat).tables g.toNat) page).1.page)),(16,.v (B true))] 2 [(1,[R h.mem.length ai.mem.1,R aL.length fu.1,R (dE h.buf (⟨(bO m g),page,(aV (el (el aL m.toNat).tables g.toNat) page).1.page,(aV (el (el aL m.toNat).tables g.toNat) page).1.bd⟩:aG)).length nm.1,R h.ag.length ai.ag.1])]) ac w/\ad w0 F u N cc h.mem ai.mem/\ad w0 F u N dT h.ag ai.ag/\ad w0 F u N kr aL fu/\ad w0 F u N wU (dE h.buf (⟨(bO m g),page,(aV (el (el aL m.toNat).tables g.toNat) page).1.page,(aV (el (el aL m.toNat).tables g.toNat) page).1.bd⟩:aG)) nm/\ea (aV (el (el aL m.toNat).tables g.toNat) page).1) ?_ ?_
 ·refine S.dP (f:=6) 3 (by kernel_rfl) (by kernel_rfl) fun w S=>?_
  refine S.a9 0 [0] [] [(207,.v (GT.val (⟨h.mem,aL,(dE h.buf (⟨(bO m g),page,(aV (el (el aL m.toNat).tables g.toNat) page).1.page,(aV (el (el aL m.toNat).tables g.toNat) page).1.bd⟩:aG)),h.ag⟩:ah) (⟨ai.mem,fu,nm,ai.ag⟩:cb)))] .nil fun ac S=>?_
  refine ar.m8 fun W aH=>?_
  refine ar.mP (l':=cu 6 [0]) (by kernel_rfl) ?_
  have DS ac w u N β (S:aj Tryz.prog Tryz.f112.ntmps w0 F u N β (ud.dl [7,22] [(15,.v (aa (aV (el (el aL m.toNat).tables g.toNat) page).1.page)),(16,.v (B true))] 4 [(1,[R h.mem.length ai.mem.1,R aL.length fu.1,R (dE h.buf (⟨(bO m g),page,(aV (el (el aL m.toNat).tables g.toNat) page).1.page,(aV (el (el aL m.toNat).tables g.toNat) page).1.bd⟩:aG)).length nm.1,R h.ag.length ai.ag.1])]) ac w) (bK:ad w0 F u N cc h.mem ai.mem) (bo:ad w0 F u N dT h.ag ai.ag) (eY:ad w0 F u N kr aL fu) (kH:ad w0 F u N wU (dE h.buf (⟨(bO m g),page,(aV (el (el aL m.toNat).tables g.toNat) page).1.page,(aV (el (el aL m.toNat).tables g.toNat) page).1.bd⟩:aG)) nm) (i204:ea (aV (el (el aL m.toNat).tables g.toNat) page).1):W 0 (cu 6 [0,1,2,3,4,5]) ac w:=by
   exact nb aH ⟨rfl,_,_,_,S.z,bK,bo,eY,kH,i204⟩
  have adz ac w u N β (S:aj Tryz.prog Tryz.f112.ntmps w0 F u N β (ud.dl [7,22] [(207,.v (GT.val (⟨h.mem,aL,(dE h.buf (⟨(bO m g),page,(aV (el (el aL m.toNat).tables g.toNat) page).1.page,(aV (el (el aL m.toNat).tables g.toNat) page).1.bd⟩:aG)),h.ag⟩:ah) (⟨ai.mem,fu,nm,ai.ag⟩:cb))),(209,.v (aa (aV (el (el aL m.toNat).tables g.toNat) page).1.page))] 4 []) ac w) (bK:ad w0 F u N cc h.mem ai.mem) (bo:ad w0 F u N dT h.ag ai.ag) (eY:ad w0 F u N kr aL fu) (kH:ad w0 F u N wU (dE h.buf (⟨(bO m g),page,(aV (el (el aL m.toNat).tables g.toNat) page).1.page,(aV (el (el aL m.toNat).tables g.toNat) page).1.bd⟩:aG)) nm) (i204:ea (aV (el (el aL m.toNat).tables g.toNat) page).1) (al:d_ bx bA N u) (aP:cS ud.aM.length bS β):W 3 (cu 6 [0,1,2]) ac w:=by
   exact en aH 3 (S.wl aH [4,5] .nil fun _ _ _ S=>DS _ _ _ _ _ S bK bo eY kH i204)
  have adA ac w u N β (S:aj Tryz.prog Tryz.f112.ntmps w0 F u N β (ud.dl [7,22] [(208,.p 3 0)] 4 [(1,[R h.mem.length ai.mem.1,R aL.length fu.1,R (dE h.buf (⟨(bO m g),page,(aV (el (el aL m.toNat).tables g.toNat) page).1.page,(aV (el (el aL m.toNat).tables g.toNat) page).1.bd⟩:aG)).length nm.1,R h.ag.length ai.ag.1])]) ac w) (bK:ad w0 F u N cc h.mem ai.mem) (bo:ad w0 F u N dT h.ag ai.ag) (eY:ad w0 F u N kr aL fu) (kH:ad w0 F u N wU (dE h.buf (⟨(bO m g),page,(aV (el (el aL m.toNat).tables g.toNat) page).1.page,(aV (el (el aL m.toNat).tables g.toNat) page).1.bd⟩:aG)) nm) (i204:ea (aV (el (el aL m.toNat).tables g.toNat) page).1):W 3 (cu 6 [0,1,3]) ac w:=by
   exact en aH 2 (S.wl aH [4,5] .nil fun _ _ _ S=>DS _ _ _ _ _ S bK bo eY kH i204)
  have adB ac w u N β (S:aj Tryz.prog Tryz.f112.ntmps w0 F u N β (ud.dl [7,22] [(207,.v (GT.val (⟨h.mem,aL,(dE h.buf (⟨(bO m g),page,(aV (el (el aL m.toNat).tables g.toNat) page).1.page,(aV (el (el aL m.toNat).tables g.toNat) page).1.bd⟩:aG)),h.ag⟩:ah) (⟨ai.mem,fu,nm,ai.ag⟩:cb))),(208,.p 3 0)] 4 []) ac w) (bK:ad w0 F u N cc h.mem ai.mem) (bo:ad w0 F u N dT h.ag ai.ag) (eY:ad w0 F u N kr aL fu) (kH:ad w0 F u N wU (dE h.buf (⟨(bO m g),page,(aV (el (el aL m.toNat).tables g.toNat) page).1.page,(aV (el (el aL m.toNat).tables g.toNat) page).1.bd⟩:aG)) nm) (al:d_ bx bA N u) (aP:cS ud.aM.length bS β):W 4 (cu 6 [0,1]) ac w:=by
   exact gx aH 2 3 (S.e0 aH al aP [] .nil fun _ _ _ S ca=>adz _ _ _ _ _ S bK bo eY kH i105 al ca) (S.wl aH [] .nil fun _ _ _ S=>adA _ _ _ _ _ S bK bo eY kH i105)
  rw [aH]
  exact S.cZ aH [1] (fun _=>S.tR) fun _ S=>adB _ _ _ _ _ S bK bo eY kH (fun _ h=>⟨h,rfl⟩) (fun _ _=>rfl)
 clear S bK bo eY kH
 rintro ac w ⟨u,N,β,S,bK,bo,eY,kH,i204⟩
 refine S.ex fun S=>?_
 refine S.bq 2 .nil [GT.val (⟨h.mem,aL,(dE h.buf (⟨(bO m g),page,(aV (el (el aL m.toNat).tables g.toNat) page).1.page,(aV (el (el aL m.toNat).tables g.toNat) page).1.bd⟩:aG)),h.ag⟩:ah) (⟨ai.mem,fu,nm,ai.ag⟩:cb),aa (aV (el (el aL m.toNat).tables g.toNat) page).1.page,B true] fun ac w β S=>?_
 have ahe:=fi (x:=(⟨h.mem,aL,(dE h.buf (⟨(bO m g),page,(aV (el (el aL m.toNat).tables g.toNat) page).1.page,(aV (el (el aL m.toNat).tables g.toNat) page).1.bd⟩:aG)),h.ag⟩:ah)) (p:=(⟨ai.mem,fu,nm,ai.ag⟩:cb)) bK eY kH bo d89 d199 d15 d202 (J.symm d91) (J.symm d201)
 exact B3 S (show(cL h m g page need false).1=(⟨h.mem,aL,(dE h.buf (⟨(bO m g),page,(aV (el (el aL m.toNat).tables g.toNat) page).1.page,(aV (el (el aL m.toNat).tables g.toNat) page).1.bd⟩:aG)),h.ag⟩:ah) from m6) (show(cL h m g page need false).2.1=(aV (el (el aL m.toNat).tables g.toNat) page).1.page from m6) (show(cL h m g page need false).2.2=true from m6) rfl ahe (ea.page (d:=(aV (el (el aL m.toNat).tables g.toNat) page).1) i204) xT
theorem Zt (w0:World) (page:Int) (hE:a_ page) (write:Bool):Calls Tryz.prog 116 [aa page,B write].toArray w0 (fun e w'=>e= .returned (GT.val (gU page write) ())/\bu ab w0 w'):=by
 refine Calls.run ab Tryz.func116 ?_
 intro ac β S
 have yl:=hE.lo;have yc:=hE.hi
 exact S.aq 14 (.cons (fT (s:=Instr.build 68 [(0,aa 1),(1,aa page),(2,B write)].toArray) (v:= .agg [aa 1,aa page,B write,aa 0].toArray) (fun w=>by kernel_rfl)) .nil) [GT.val (⟨1,page,write,0⟩:df) ()] (hU (p:=()) (by clear S;rfl))
theorem zK (w0:World) (g:ax) (bc:c6) (aJ:bT w0 g bc) (e:df) (he:fF e):Calls Tryz.prog 115 [GT.val g bc,GT.val e ()].toArray w0 (dw ab w0 (({g with exit:=e}:ax):ax)):=by
 refine Calls.run ab Tryz.func115 ?_
 intro ac β S
 have iy:g.prog.length<=4194304:=af.le (az.prog (d:=g) aJ)
 have iA:g.written.length<=4194304:=af.le (az.written (d:=g) aJ)
 have ix:g.live.length<=4194304:=af.le (az.live (d:=g) aJ)
 have iz:g.seen.length<=4194304:=af.le (az.seen (d:=g) aJ)
 refine S.go 10 .nil fun ac w β S=>S.cN (r:=g) (d:=6) (uA w g bc (S.rd (S.arg aJ))) fun ac w N ae br S up aD d4=>?_
 clear up d4
 have i8:a_ g.acc:=az.acc (d:=g) aD.ak
 have i9:a_ g.aw:=az.aw (d:=g) aD.ak
 have i16:hr g.aN:=az.aN (d:=g) aD.ak
 have i17:a_ g.aB:=az.aB (d:=g) aD.ak
 obtain⟨dO,dT,gb,ko,bJ,bo,c4,fz,_,_,_,_,d22,d23,d24,d25,d26,d27⟩:=mB aD
 refine S.bq 17 .nil [GT.val (⟨g.prog,g.acc,g.aw,g.written,g.live,g.aN,g.aB,e,g.halted,g.seen⟩:ax) (⟨ae.prog,ae.written,ae.live,ae.seen⟩:c6)] fun ac w β S=>?_
 have fC:=hI (x:=(⟨g.prog,g.acc,g.aw,g.written,g.live,g.aN,g.aB,e,g.halted,g.seen⟩:ax)) (p:=(⟨ae.prog,ae.written,ae.live,ae.seen⟩:c6)) bJ bo c4 fz d22 d23 d24 d25 d26 d27 i8 i9 i16 i17 he
 exact cx S (show({g with exit:=e}:ax)=(⟨g.prog,g.acc,g.aw,g.written,g.live,g.aN,g.aB,e,g.halted,g.seen⟩:ax) by clear S;rfl) rfl fC
theorem Tq {p:Prop} (h:p:=by clear S;(first|(unfold dr;rw [if_pos (by omega)];done)|(unfold dr;rw [if_pos (by omega)];first|rfl|(simp;done))|(unfold dr;rw [if_neg (by omega)];done)|(unfold dr;rw [if_neg (by omega)];first|rfl|(simp;done)))):p:=h
theorem PJ (w0:World) (addr:Int) (oq:a_ addr):Calls Tryz.prog 118 [aa addr].toArray w0 (fun e w'=>e= .returned (aa (dr addr))/\bu ab w0 w'):=by
 refine Calls.run ab Tryz.func118 ?_
 intro ac β S
 have JH:=oq.lo;have Jo:=oq.hi
 refine S.aI 12 .nil (decide (addr<0)) (fun ac w β h1 a8 S=>?_) (fun ac w β h1 a8 S=>?_)
 ·exact S.aq 7 .nil [aa (-1)] (b3 Tq)
 exact S.aq 11 (.cons (oU (x:=addr) (y:=4) (by decide)) .nil) [aa (Int.tmod addr 4)] (b3 Tq)
theorem TE {p:Prop} (h:p:=by clear S;(unfold xG;(repeat' split)<;>first|rfl|(rw [Bool.eq_iff_iff];simp [a3];omega)|(rw [Bool.eq_iff_iff];simp_all;omega))):p:=h
theorem P1 (w0:World) (m:List (List Int)) (pm:aC (List Int)) (hm:bT w0 m pm) (page:Int) (cell:Int):Calls Tryz.prog 229 [R m.length pm.1,aa page,aa cell].toArray w0 (fun e w'=>e= .returned (B (xG m page cell))/\bu ab w0 w'):=by
 refine Calls.run ab Tryz.func229 ?_
 intro ac β S
 have qW:m.length<=4194304:=af.le hm
 refine S.bb 13 (.cons (g8 (m.length:Int) 1) (.cons (aE fun w hw=>fw w page 0 ((m.length:Int)-1)) .nil)) (a3 page 0 ((m.length:Int)-1)) (fun ac w β h1 S=>?_) (fun ac w β h1 S=>?_)
 ·have a8:=cU h1
  have qF:(el m page.toNat).length<=4194304:=af.le (af.el (S.arg hm) page.toNat (by omega))
  exact S.aq 13 (.cons (cp (S.arg hm) page Tryz.underlying22) (.cons (cj (S.arg hm) 38 page.toNat) (.cons (g8 ((el m page.toNat).length:Int) 1) (.cons (aE fun w hw=>fw w cell 0 (((el m page.toNat).length:Int)-1)) .nil)))) [B (a3 cell 0 (((el m page.toNat).length:Int)-1))] (a6 TE)
 have cB:=dm h1
 exact S.aq 13 .nil [B false] (a6 TE)
theorem KE {p:Prop} (h:p:=by clear S;(unfold gf;(repeat' split)<;>first|rfl|(simp;done)|(exfalso;omega)|(exfalso;simp_all;done)|(exfalso;simp_all;omega))):p:=h
theorem ZQ (w0:World) (m:List (List Int)) (pm:aC (List Int)) (hm:bT w0 m pm) (page:Int) (cell:Int) (v:Int) (b5:a_ v):Calls Tryz.prog 117 [R m.length pm.1,aa page,aa cell,aa v].toArray w0 (dw ab w0 (gf m page cell v:List (List Int))):=by
 refine Calls.run ab Tryz.func117 ?_
 intro ac β S
 have qW:m.length<=4194304:=af.le hm
 have JI:=b5.lo;have Jp:=b5.hi
 refine S.go 8 .nil fun ac w β S=>S.cN (r:=m) (d:=11) (pU w m pm (S.rd (S.arg hm))) fun ac w N ae br S up aD d4=>?_
 clear up d4
 refine S.bb 11 (.cons (aE fun w hw=>P1 w m pm (bN (S.arg hm) hw) page cell) .nil) (xG m page cell) (fun ac w β bl S=>?_) (fun ac w β bl S=>?_)
 ·have c7:=R0 bl
  refine S.bb 5 (.cons (aE fun w hw=>fw w v 0 99) .nil) (a3 v 0 99) (fun ac w β cD S=>?_) (fun ac w β cD S=>?_)
  ·have e_:=cU cD
   obtain⟨bU,m9,_,W_⟩:=uR aD (k:=page.toNat) (show page.toNat<m.length by omega)
   have aoI:=af.le m9.ak
   have vY:=m9.sub
   refine S.go 9 (.cons (cp aD.ak page Tryz.underlying22) (.cons (cj aD.ak 38 page.toNat) (.cons (cp (af.el aD.ak page.toNat (by omega)) cell Tryz.underlying38) .nil))) fun ac w β S=>S.fM (α:=Int) m9 (t:=3) (k:=cell.toNat) (j:=0) (off:=(ae.2 page.toNat).1.off+cell.toNat*1) (v:=aa v) (y:=v) (q:=()) (fun _ _ _=>⟨ab,b5,fun _ h=>False.elim h⟩) fun w N pL wm S up bh d18 ajn K9=>?_
   clear d18 m9
   obtain⟨apH,fh,OR⟩:=W_ _ _ _ _ _ ab up bh ajn (fun b _ h=>False.elim h) (by show [R _ _]=[R _ _];rw [List.length_set]) (fun b h=>K9 b (vY b h))
   clear up bh K9
   have KN:(m.set page.toNat ((el m page.toNat).set cell.toNat v)).length=m.length:=List.length_set
   refine S.bq 9 .nil [R m.length ae.1] fun ac w β S=>?_
   exact cx S (show gf m page cell v=(m.set page.toNat ((el m page.toNat).set cell.toNat v)) from KE) (by rw [show m.length=(m.set page.toNat ((el m page.toNat).set cell.toNat v)).length from(by omega)];rfl) fh
  have jC:=dm cD
  refine S.bq 10 .nil [R m.length ae.1] fun ac w β S=>?_
  exact cx S (show gf m page cell v=m from KE) rfl aD
 have p6:=RZ bl
 refine S.bq 15 .nil [R m.length ae.1] fun ac w β S=>?_
 exact cx S (show gf m page cell v=m from KE) rfl aD
theorem ZL (w0:World) (g:ax) (bc:c6) (aJ:bT w0 g bc):Calls Tryz.prog 119 [GT.val g bc].toArray w0 (dw ab w0 (a4 g:ax)):=by
 refine Calls.run ab Tryz.func119 ?_
 intro ac β S
 have iy:g.prog.length<=4194304:=af.le (az.prog (d:=g) aJ)
 have iA:g.written.length<=4194304:=af.le (az.written (d:=g) aJ)
 have ix:g.live.length<=4194304:=af.le (az.live (d:=g) aJ)
 have iz:g.seen.length<=4194304:=af.le (az.seen (d:=g) aJ)
 refine S.go 9 .nil fun ac w β S=>S.cN (r:=a4 g) (d:=4) (pT w g bc (S.rd (S.arg aJ))) fun ac w N ae br S up aD d4=>?_
 clear up d4
 refine S.bq 4 .nil [GT.val (a4 g) ae] fun ac w β S=>?_
 exact cx S (show a4 g=(a4 g) by clear S;rfl) rfl aD
theorem Tu {p:Prop} (h:p:=by clear S;(first|(unfold fB;rw [if_pos (by omega)];done)|(unfold fB;rw [if_pos (by omega)];first|rfl|(simp;done))|(unfold fB;rw [if_neg (by omega)];done)|(unfold fB;rw [if_neg (by omega)];first|rfl|(simp;done)))):p:=h
theorem Zo (w0:World) (m:List (List Int)) (pm:aC (List Int)) (hm:bT w0 m pm) (page:Int) (cell:Int):Calls Tryz.prog 121 [R m.length pm.1,aa page,aa cell].toArray w0 (fun e w'=>e= .returned (aa (fB m page cell))/\bu ab w0 w'):=by
 refine Calls.run ab Tryz.func121 ?_
 intro ac β S
 have qW:m.length<=4194304:=af.le hm
 refine S.bb 15 (.cons (aE fun w hw=>P1 w m pm (bN (S.arg hm) hw) page cell) .nil) (!(xG m page cell)) (fun ac w β h1 S=>?_) (fun ac w β h1 S=>?_)
 ·have an:=cn h1
  have b4:=RZ an
  exact S.aq 7 .nil [aa 0] (b3 Tu)
 have b2:=b_ h1
 have dK:=R0 b2
 exact S.aq 16 (.cons (cp (S.arg hm) page Tryz.underlying22) (.cons (cj (S.arg hm) 38 page.toNat) (.cons (cp (af.el (S.arg hm) page.toNat (by omega)) cell Tryz.underlying38) (.cons (cj (af.el (S.arg hm) page.toNat (by omega)) 3 cell.toNat) .nil)))) [aa (el (el m page.toNat) cell.toNat)] (b3 Tu)
theorem ZC (w0:World) (g:ax) (bc:c6) (aJ:bT w0 g bc) (v:Int) (b5:a_ v):Calls Tryz.prog 120 [GT.val g bc,aa v].toArray w0 (dw ab w0 (h5 g v:ax)):=by
 refine Calls.run ab Tryz.func120 ?_
 intro ac β S
 have iy:g.prog.length<=4194304:=af.le (az.prog (d:=g) aJ)
 have iA:g.written.length<=4194304:=af.le (az.written (d:=g) aJ)
 have ix:g.live.length<=4194304:=af.le (az.live (d:=g) aJ)
 have iz:g.seen.length<=4194304:=af.le (az.seen (d:=g) aJ)
 have JI:=b5.lo;have Jp:=b5.hi
 refine S.go 17 .nil fun ac w β S=>S.cN (r:=g4 (⟨g.prog,v,g.aw,g.written,g.live,g.aN,g.aB,g.exit,g.halted,g.seen⟩:ax) v) (d:=9) (PX w (⟨g.prog,v,g.aw,g.written,g.live,g.aN,g.aB,g.exit,g.halted,g.seen⟩:ax) (⟨bc.prog,bc.written,bc.live,bc.seen⟩:c6) (S.rd (show GT.rd b7 _ _ (⟨g.prog,v,g.aw,g.written,g.live,g.aN,g.aB,g.exit,g.halted,g.seen⟩:ax) (⟨bc.prog,bc.written,bc.live,bc.seen⟩:c6) from⟨(az.prog (p:=bc) (d:=g) (S.arg aJ)),b5,(az.aw (d:=g) (S.arg aJ)),(az.written (p:=bc) (d:=g) (S.arg aJ)),(az.live (p:=bc) (d:=g) (S.arg aJ)),(az.aN (d:=g) (S.arg aJ)),(az.aB (d:=g) (S.arg aJ)),(az.exit (d:=g) (S.arg aJ)),(az.seen (p:=bc) (d:=g) (S.arg aJ))⟩)) v b5) fun ac w N ae br S up aD d4=>?_
 clear up d4
 refine S.cN (r:=a4 (g4 (⟨g.prog,v,g.aw,g.written,g.live,g.aN,g.aB,g.exit,g.halted,g.seen⟩:ax) v)) (d:=10) (pT w (g4 (⟨g.prog,v,g.aw,g.written,g.live,g.aN,g.aB,g.exit,g.halted,g.seen⟩:ax) v) ae (S.rd aD.ak)) fun ac w N bL cW S up ao d8=>?_
 clear up d8
 refine S.bq 4 .nil [GT.val (a4 (g4 (⟨g.prog,v,g.aw,g.written,g.live,g.aN,g.aB,g.exit,g.halted,g.seen⟩:ax) v)) bL] fun ac w β S=>?_
 exact cx S (show h5 g v=(a4 (g4 (⟨g.prog,v,g.aw,g.written,g.live,g.aN,g.aB,g.exit,g.halted,g.seen⟩:ax) v)) by clear S;rfl) rfl ao
theorem KH {p:Prop} (h:p:=by clear S;(first|exact akd (by assumption) (by assumption) (by assumption)|exact ake (by assumption) (by assumption) (by assumption) (by assumption)|exact akc (by assumption) (by assumption) (by assumption) (by assumption))):p:=h
theorem Z1 (w0:World) (h:ah) (ai:cb) (F:au) (a1:GT.own b7 F w0 h ai) (eM:∀b,F b->b<w0.heap.size) (m:Int) (g:Int) (write:Bool) (ft:(0<=m/\m<h.I.length)/\0<=g/\g<(el h.I m.toNat).U.length) (gP:mf h m g=true):Calls Tryz.prog 33 [GT.val h ai,aa m,aa g,GT.val (el (el h.I m.toNat).U g.toNat) ((ai.I.2 m.toNat).U.2 g.toNat),B write].toArray w0 (ur F F w0 (mg h m g (el (el h.I m.toNat).U g.toNat) write:ah)):=by
 refine Calls.run F Tryz.func33 ?_
 intro ac β S
 have eb:ad w0 F w0 (fc w0.heap.size) F h ai:=⟨a1,eM,fun b hb=> .inr hb⟩
 obtain⟨cc,e4,e5,dT,bK,bY,bP,bo,_,_,_,_,d13,d14,d15,d16,d17,d18⟩:=jL eb
 refine S.go 15 (.cons (aE fun w hw=>Zl w (el (el h.I m.toNat).U g.toNat) ((ai.I.2 m.toNat).U.2 g.toNat) (bN (kk bY (by clear S;first|rfl|exact pw (by assumption)) ((de.g0 _) m.toNat) (by omega) (by omega)) hw)) .nil) fun ac w β S=>?_
 refine dI ?_
 let sK:b1:=⟨[(1,.v (aa m)),(2,.v (aa g)),(4,.v (B write)),(5,.p 0 0),(8,.p 1 0),(10,.p 2 0),(11,.v (aa (bm (el (el h.I m.toNat).U g.toNat))))],[[R h.mem.length ai.mem.1,R h.I.length ai.I.1,R h.buf.length ai.buf.1,R h.ag.length ai.ag.1],GT.cells (el (el h.I m.toNat).U g.toNat) ((ai.I.2 m.toNat).U.2 g.toNat),ck ah]⟩
 obtain⟨bA,bx,bS,S,bK,bY,bP,bo⟩:∃bA bx bS,aj Tryz.prog Tryz.f33.ntmps w0 F bA bx bS sK ac w/\ad w0 F bA bx cc h.mem ai.mem/\ad w0 F bA bx e4 h.I ai.I/\ad w0 F bA bx e5 h.buf ai.buf/\ad w0 F bA bx dT h.ag ai.ag:=⟨_,_,_,S.z,bK,bY,bP,bo⟩
 obtain⟨av,hn⟩:∃z,z=(cL h m g (cr (bm (el (el h.I m.toNat).U g.toNat))) (dB write) false).1:=⟨_,rfl⟩
 have afu:=KW hn (by assumption)
 try dsimp only at afu
 refine mD (fun ac w=>∃iH iN gQ gd ki nt eW n4 u N β,aj Tryz.prog Tryz.f33.ntmps w0 F u N β (sK.dl [] [(12,.v (aa (cL h m g (cr (bm (el (el h.I m.toNat).U g.toNat))) (dB write) false).2.1)),(13,.v (B (cL h m g (cr (bm (el (el h.I m.toNat).U g.toNat))) (dB write) false).2.2))] 3 [(0,[R av.mem.length ki.1,R av.I.length eW.1,R av.buf.length iH.1,R av.ag.length gQ.1])]) ac w/\ad w0 F u N iN av.buf iH/\ad w0 F u N gd av.ag gQ/\ad w0 F u N nt av.mem ki/\ad w0 F u N n4 av.I eW/\J iN gd/\J iN nt/\J iN n4/\J gd nt/\J gd n4/\J nt n4/\a_ (cL h m g (cr (bm (el (el h.I m.toNat).U g.toNat))) (dB write) false).2.1/\de ai.I.2 eW.2) ?_ ?_
 ·refine S.dP (f:=17) 9 (by kernel_rfl) (by kernel_rfl) fun w S=>?_
  refine S.a9 0 [0] [] [(17,.v (GT.val h ai))] .nil fun ac S=>?_
  refine S.a9 1 [2,1] [] [(18,.p 0 2)] .nil fun ac S=>?_
  refine S.hm 12 [2,3,4] [] [(19,.v (R h.buf.length ai.buf.1)),(20,.v (aa m)),(21,.v (aa g))] .nil fun ac S=>?_
  refine S.a9 5 [6,5] [] [(22,.v (aa (bm (el (el h.I m.toNat).U g.toNat))))] .nil fun ac S=>?_
  refine S.a9 7 [8,7] [] [(24,.v (B write))] .nil fun ac S=>?_
  refine ar.m8 fun W aH=>?_
  refine ar.mP (l':=cu 17 [0,1,2,3,4,5,7]) (by kernel_rfl) ?_
  have adN ac w iH iN gQ gd ki nt eW n4 u N β (S:aj Tryz.prog Tryz.f33.ntmps w0 F u N β (sK.dl [] [(12,.v (aa (cL h m g (cr (bm (el (el h.I m.toNat).U g.toNat))) (dB write) false).2.1)),(13,.v (B (cL h m g (cr (bm (el (el h.I m.toNat).U g.toNat))) (dB write) false).2.2))] 3 [(0,[R av.mem.length ki.1,R av.I.length eW.1,R av.buf.length iH.1,R av.ag.length gQ.1])]) ac w) (gi:ad w0 F u N iN av.buf iH) (gH:ad w0 F u N gd av.ag gQ) (hT:ad w0 F u N nt av.mem ki) (fI:ad w0 F u N n4 av.I eW) (d100:J iN gd) (d101:J iN nt) (d102:J iN n4) (d103:J gd nt) (d104:J gd n4) (d105:J nt n4) (i86:a_ (cL h m g (cr (bm (el (el h.I m.toNat).U g.toNat))) (dB write) false).2.1) (x1:de ai.I.2 eW.2):W 0 (cu 17 [0,1,2,3,4,5,6,7,8,9,10,11,12,13,14,15,16]) ac w:=by
   exact nb aH ⟨rfl,iH,iN,gQ,gd,ki,nt,eW,n4,_,_,_,S.z,gi,gH,hT,fI,d100,d101,d102,d103,d104,d105,i86,x1⟩
  have adh ac w MW uk MX zl FA zi FB w2 u N β (S:aj Tryz.prog Tryz.f33.ntmps w0 F u N β (sK.dl [] [(27,.v (GT.val av (⟨FA,FB,MW,MX⟩:cb))),(28,.v (aa (cL h m g (cr (bm (el (el h.I m.toNat).U g.toNat))) (dB write) false).2.1)),(29,.v (B (cL h m g (cr (bm (el (el h.I m.toNat).U g.toNat))) (dB write) false).2.2))] 3 []) ac w) (q_:ad w0 F u N uk av.buf MW) (oH:ad w0 F u N zl av.ag MX) (ahI:ad w0 F u N zi av.mem FA) (ahJ:ad w0 F u N w2 av.I FB) (d107:J uk zl) (d108:J uk zi) (d109:J uk w2) (d110:J zl zi) (d111:J zl w2) (d112:J zi w2) (i86:a_ (cL h m g (cr (bm (el (el h.I m.toNat).U g.toNat))) (dB write) false).2.1) (acv:de ai.I.2 FB.2):W 3 (cu 17 [0,1,2,3,4,5,6,7,8,9,10,11,12,13]) ac w:=by
   exact en aH 14 (S.wl aH [15,16] .nil fun _ _ _ S=>adN _ _ MW uk MX zl FA zi FB w2 _ _ _ S q_ oH ahI ahJ d107 d108 d109 d110 d111 d112 i86 acv)
  have adi ac w u N β (S:aj Tryz.prog Tryz.f33.ntmps w0 F u N β (sK.dl [] [(17,.v (GT.val h ai)),(19,.v (R h.buf.length ai.buf.1)),(20,.v (aa m)),(21,.v (aa g)),(23,.v (aa (cr (bm (el (el h.I m.toNat).U g.toNat))))),(25,.v (aa (dB write)))] 3 []) ac w) (bK:ad w0 F u N cc h.mem ai.mem) (bY:ad w0 F u N e4 h.I ai.I) (bP:ad w0 F u N e5 h.buf ai.buf) (bo:ad w0 F u N dT h.ag ai.ag) (al:d_ bx bA N u) (aP:cS sK.aM.length bS β):W 8 (cu 17 [0,1,2,3,4,5,6,7,8]) ac w:=by
   refine en aH 9 ?_
   have tz:=fi (x:=h) (p:=ai) bK bY bP bo d13 d14 d15 d16 d17 d18
   refine id (S.Z5 (d:=26) tz hn (ZZ w h ai (j1 [cc,e4,e5,dT]) (S.fX tz) (fun b hb=>(S.sep b (tz.sub b hb)).1) m g (cr (bm (el (el h.I m.toNat).U g.toNat))) (rF (jU (kk bY (by clear S;first|rfl|exact pw (by assumption)) ((de.g0 _) m.toNat) (by omega) (by omega)))) (dB write) false (by rfl)) fun ac w N yL NO S up Bp d118 i120 abU=>?_)
   refine ar.c9 fun bk=>?_
   clear up d118 tz
   obtain⟨qw,NP,ry,CH,ib,sl,ic,tA,_,_,_,_,d134,d135,d136,d137,d138,d139⟩:=jL Bp
   have ab0:=de.iK (de.g0 _) abU
   exact S.cZ aH [10,11,12,13] bk fun _ S=>adh _ _ yL.buf ry yL.ag CH yL.mem qw yL.I NP _ _ _ S ic tA ib sl d139 (J.symm d135) (J.symm d137) (J.symm d136) (J.symm d138) d134 i120 ab0
  have adk ac w u N β (S:aj Tryz.prog Tryz.f33.ntmps w0 F u N β (sK.dl [] [(17,.v (GT.val h ai)),(19,.v (R h.buf.length ai.buf.1)),(20,.v (aa m)),(21,.v (aa g)),(23,.v (aa (cr (bm (el (el h.I m.toNat).U g.toNat))))),(24,.v (B write))] 3 []) ac w) (bK:ad w0 F u N cc h.mem ai.mem) (bY:ad w0 F u N e4 h.I ai.I) (bP:ad w0 F u N e5 h.buf ai.buf) (bo:ad w0 F u N dT h.ag ai.ag) (al:d_ bx bA N u) (aP:cS sK.aM.length bS β):W 9 (cu 17 [0,1,2,3,4,5,6,7]) ac w:=by
   exact en aH 8 (S.e0 aH al aP [] (.cons (aE fun w hw=>ZF w write) .nil) fun _ _ _ S ca=>adi _ _ _ _ _ S bK bY bP bo al ca)
  have al:d_ bx bA bx bA:=fun b h=>⟨h,rfl⟩
  have aP:cS sK.aM.length bS bS:=fun _ _=>rfl
  exact en aH 6 (S.e0 aH al aP [] (.cons (aE fun w hw=>PK w (bm (el (el h.I m.toNat).U g.toNat)) (jU (kk bY (by clear S;first|rfl|exact pw (by assumption)) ((de.g0 _) m.toNat) (by omega) (by omega)))) .nil) fun _ _ _ S ca=>adk _ _ _ _ _ S bK bY bP bo al ca)
 clear S bK bY bP bo
 rintro ac w ⟨iH,iN,gQ,gd,ki,nt,eW,n4,u,N,β,S,gi,gH,hT,fI,d142,d143,d144,d145,d146,d147,i86,x1⟩
 refine S.ex fun S=>?_
 refine S.bb 10 .nil (!(cL h m g (cr (bm (el (el h.I m.toNat).U g.toNat))) (dB write) false).2.2) (fun ac w β ID S=>?_) (fun ac w β ID S=>?_)
 ·have anR:=cn ID
  refine S.go 1 .nil fun ac w β S=>?_
  refine dI ?_
  refine S.dP (f:=15) 14 (by kernel_rfl) (by kernel_rfl) fun w S=>?_
  refine S.hm 5 [0,1,2,3,4,5,6,7,8,10] [] [(54,.v (R (el av.I m.toNat).U.length (eW.2 m.toNat).U.1)),(55,.v (aa g)),(56,.v (GT.val (el (el h.I m.toNat).U g.toNat) ((ai.I.2 m.toNat).U.2 g.toNat))),(57,.v (aa (bm (el (el h.I m.toNat).U g.toNat)))),(59,.v (B write))] (.cons (cp fI.ak m Tryz.underlying28) (.cons (cz fI.ak 71 m.toNat 3 (R (el av.I m.toNat).U.length (eW.2 m.toNat).U.1)) .nil)) fun ac S=>?_
  refine S.iI 9 [] [(58,.v (aa (cr (bm (el (el h.I m.toNat).U g.toNat)))))] 3 [] (.cons (aE fun w hw=>PK w (bm (el (el h.I m.toNat).U g.toNat)) (jU (kk bY (by clear S;first|rfl|exact pw (by assumption)) ((de.g0 _) m.toNat) (by omega) (by omega)))) .nil) fun ac w β S=>?_
  refine S.iI 11 [] [(60,.v (GT.val (gU (cr (bm (el (el h.I m.toNat).U g.toNat))) write) ()))] 3 [] (.cons (aE fun w hw=>Zt w (cr (bm (el (el h.I m.toNat).U g.toNat))) (rF (jU (kk bY (by clear S;first|rfl|exact pw (by assumption)) ((de.g0 _) m.toNat) (by omega) (by omega)))) write) .nil) fun ac w β S=>?_
  refine ar.one (i:=12) (by kernel_rfl) ?_
  refine id (S.dz 61 (zK w (el (el h.I m.toNat).U g.toNat) ((ai.I.2 m.toNat).U.2 g.toNat) (S.rd (kk fI (by clear S;first|rfl|exact pw (by assumption)) (x1 m.toNat) (by omega) (by omega))) (gU (cr (bm (el (el h.I m.toNat).U g.toNat))) write) (Ic (rF (jU (kk bY (by clear S;first|rfl|exact pw (by assumption)) ((de.g0 _) m.toNat) (by omega) (by omega)))) write)) fun ac w N Vg Ga S up EY d153=>?_)
  refine ar.next S up (by kernel_rfl) ?_
  have d154:=J.w d153 hT.sub
  have d155:=J.w d153 fI.sub
  have d156:=J.w d153 gi.sub
  have d157:=J.w d153 gH.sub
  replace hT:=hT.up up
  replace fI:=fI.up up
  replace gi:=gi.up up
  replace gH:=gH.up up
  clear up d153
  refine S.a9 13 [13] [] [(62,.v (bg (eW.2 m.toNat).U.1.b ((eW.2 m.toNat).U.1.off+g.toNat*15)))] (.cons (cp (aU.U (d:=(el av.I m.toNat)) (af.el fI.ak m.toNat (by omega))) g Tryz.underlying71) .nil) fun ac S=>?_
  refine ar.one (i:=14) (by kernel_rfl) ?_
  obtain⟨alc,EZ,wy,Xe⟩:=o_ fI (k:=m.toNat) (show m.toNat<av.I.length by omega)
  have aoM:=af.le EZ.ak
  have K8:=EZ.sub
  refine id (S.kO (α:=ax) EZ (t:=70) (k:=g.toNat) (off:=(eW.2 m.toNat).U.1.off+g.toNat*15) EY (J.symm (J.symm (J.part d155 wy))) fun w N Wj apM S up Ui d167 aji TZ=>?_)
  refine ar.last (by kernel_rfl) ?_
  have d170:=d167 _ (J.symm (J.part (J.symm d147) wy)) d154 hT.sub
  have d171:=d167 _ (J.symm (J.part (J.symm d144) wy)) d156 gi.sub
  have d172:=d167 _ (J.symm (J.part (J.symm d146) wy)) d157 gH.sub
  replace hT:=hT.bw (J.symm (J.part (J.symm d147) wy)) up
  replace gi:=gi.bw (J.symm (J.part (J.symm d144) wy)) up
  replace gH:=gH.bw (J.symm (J.part (J.symm d146) wy)) up
  clear d167 EZ
  obtain⟨UO,ln,XS⟩:=Xe _ _ _ _ _ Ga up Ui aji d155 (by show [R _ _]=[R _ _];rw [List.length_set]) (fun b h=>TZ b (K8 b h))
  clear up Ui TZ
  have afC:(av.I.set m.toNat ({el av.I m.toNat with U:=((el av.I m.toNat).U.set g.toNat ({(el (el h.I m.toNat).U g.toNat) with exit:=(gU (cr (bm (el (el h.I m.toNat).U g.toNat))) write)}:ax))})).length=av.I.length:=List.length_set
  obtain⟨zu,RE⟩:∃z,z=av.I.set m.toNat ({el av.I m.toNat with U:=((el av.I m.toNat).U.set g.toNat ({(el (el h.I m.toNat).U g.toNat) with exit:=(gU (cr (bm (el (el h.I m.toNat).U g.toNat))) write)}:ax))}):=⟨_,rfl⟩
  rw [←RE] at ln XS afC
  obtain⟨aoQ,amy⟩:=FP RE (show m.toNat<av.I.length by omega) List.length_set
  replace S:=S.z (σ':=⟨[(5,.p 0 0),(10,.p 2 0),(61,.v (GT.val ({(el (el h.I m.toNat).U g.toNat) with exit:=(gU (cr (bm (el (el h.I m.toNat).U g.toNat))) write)}:ax) Vg)),(62,.v (bg (eW.2 m.toNat).U.1.b ((eW.2 m.toNat).U.1.off+g.toNat*15)))],[[R av.mem.length ki.1,R av.I.length eW.1,R av.buf.length iH.1,R av.ag.length gQ.1],GT.cells (el (el h.I m.toNat).U g.toNat) ((ai.I.2 m.toNat).U.2 g.toNat),ck ah]⟩)
  replace S:=S.cast (σ':=⟨[(5,.p 0 0),(10,.p 2 0),(61,.v (GT.val ({(el (el h.I m.toNat).U g.toNat) with exit:=(gU (cr (bm (el (el h.I m.toNat).U g.toNat))) write)}:ax) Vg)),(62,.v (bg (eW.2 m.toNat).U.1.b ((eW.2 m.toNat).U.1.off+g.toNat*15)))],[[R av.mem.length ki.1,R zu.length eW.1,R av.buf.length iH.1,R av.ag.length gQ.1],GT.cells (el (el h.I m.toNat).U g.toNat) ((ai.I.2 m.toNat).U.2 g.toNat),ck ah]⟩) (by rw [show zu.length=av.I.length by omega])
  refine ar.done (by kernel_rfl) ?_ _
  refine S.ex fun S=>?_
  refine S.bq 9 .nil [GT.val (⟨av.mem,zu,av.buf,av.ag⟩:ah) (⟨ki,(eW.1,UO),iH,gQ⟩:cb)] fun ac w β S=>?_
  have ag_:=fi (x:=(⟨av.mem,zu,av.buf,av.ag⟩:ah)) (p:=(⟨ki,(eW.1,UO),iH,gQ⟩:cb)) hT ln gi gH (J.symm (J.or (J.symm d147) (J.symm d170))) (J.symm d143) (J.symm d145) (J.symm (J.symm (J.or (J.symm d144) (J.symm d171)))) (J.symm (J.symm (J.or (J.symm d146) (J.symm d172)))) d142
  exact B4 S (show mg h m g (el (el h.I m.toNat).U g.toNat) write=(⟨av.mem,zu,av.buf,av.ag⟩:ah) from KH) rfl ag_
 have anT:=b_ ID
 refine S.bb 7 .nil write (fun ac w β acM S=>?_) (fun ac w β acM S=>?_)
 ·refine S.go 2 .nil fun ac w β S=>?_
  refine dI ?_
  refine S.dP (f:=10) 9 (by kernel_rfl) (by kernel_rfl) fun w S=>?_
  refine S.hm 4 [0,1,2,3,5,6] [] [(66,.v (R av.mem.length ki.1)),(67,.v (aa (cL h m g (cr (bm (el (el h.I m.toNat).U g.toNat))) (dB write) false).2.1)),(68,.v (aa (bm (el (el h.I m.toNat).U g.toNat)))),(71,.v (aa (el (el h.I m.toNat).U g.toNat).acc))] .nil fun ac S=>?_
  refine S.iI 4 [] [(69,.v (aa (dr (bm (el (el h.I m.toNat).U g.toNat)))))] 3 [] (.cons (aE fun w hw=>PJ w (bm (el (el h.I m.toNat).U g.toNat)) (jU (kk bY (by clear S;first|rfl|exact pw (by assumption)) ((de.g0 _) m.toNat) (by omega) (by omega)))) .nil) fun ac w β S=>?_
  refine ar.one (i:=7) (by kernel_rfl) ?_
  refine id (S.dz 72 (ZQ w av.mem ki (S.rd hT.ak) (cL h m g (cr (bm (el (el h.I m.toNat).U g.toNat))) (dB write) false).2.1 (dr (bm (el (el h.I m.toNat).U g.toNat))) (el (el h.I m.toNat).U g.toNat).acc (az.acc (d:=(el (el h.I m.toNat).U g.toNat)) (kk fI (by clear S;first|rfl|exact pw (by assumption)) (x1 m.toNat) (by omega) (by omega)))) fun ac w N BP NY S up iR d187=>?_)
  refine ar.next S up (by kernel_rfl) ?_
  have d189:=J.w d187 fI.sub
  have d190:=J.w d187 gi.sub
  have d191:=J.w d187 gH.sub
  replace hT:=hT.up up
  replace fI:=fI.up up
  replace gi:=gi.up up
  replace gH:=gH.up up
  clear up d187
  refine S.a9 8 [8] [] [(73,.p 0 0)] .nil fun ac S=>?_
  refine S.c9 9 [] [] 3 [(0,[R (gf av.mem (cL h m g (cr (bm (el (el h.I m.toNat).U g.toNat))) (dB write) false).2.1 (dr (bm (el (el h.I m.toNat).U g.toNat))) (el (el h.I m.toNat).U g.toNat).acc).length BP.1,R av.I.length eW.1,R av.buf.length iH.1,R av.ag.length gQ.1])] .nil fun ac w β S=>?_
  refine ar.done (by kernel_rfl) ?_ _
  refine S.ex fun S=>?_
  refine S.go 1 .nil fun ac w β S=>?_
  refine dI ?_
  refine S.dP (f:=11) 10 (by kernel_rfl) (by kernel_rfl) fun w S=>?_
  refine S.hm 3 [0,1,2,3,4,5,6,7] [] [(79,.v (R (el av.I m.toNat).U.length (eW.2 m.toNat).U.1)),(80,.v (aa g)),(81,.v (GT.val (el (el h.I m.toNat).U g.toNat) ((ai.I.2 m.toNat).U.2 g.toNat)))] (.cons (cp fI.ak m Tryz.underlying28) (.cons (cz fI.ak 71 m.toNat 3 (R (el av.I m.toNat).U.length (eW.2 m.toNat).U.1)) .nil)) fun ac S=>?_
  refine ar.one (i:=8) (by kernel_rfl) ?_
  refine id (S.dz 82 (ZL w (el (el h.I m.toNat).U g.toNat) ((ai.I.2 m.toNat).U.2 g.toNat) (S.rd (kk fI (by clear S;first|rfl|exact pw (by assumption)) (x1 m.toNat) (by omega) (by omega)))) fun ac w N wo Wm S up ahb d195=>?_)
  refine ar.next S up (by kernel_rfl) ?_
  have d196:=J.w d195 fI.sub
  have d197:=J.w d195 gi.sub
  have d198:=J.w d195 gH.sub
  have d199:=J.w d195 iR.sub
  replace fI:=fI.up up
  replace gi:=gi.up up
  replace gH:=gH.up up
  replace iR:=iR.up up
  clear up d195
  refine S.a9 9 [9] [] [(83,.v (bg (eW.2 m.toNat).U.1.b ((eW.2 m.toNat).U.1.off+g.toNat*15)))] (.cons (cp (aU.U (d:=(el av.I m.toNat)) (af.el fI.ak m.toNat (by omega))) g Tryz.underlying71) .nil) fun ac S=>?_
  refine ar.one (i:=10) (by kernel_rfl) ?_
  obtain⟨alj,E0,wz,Xg⟩:=o_ fI (k:=m.toNat) (show m.toNat<av.I.length by omega)
  have aoV:=af.le E0.ak
  have agA:=E0.sub
  refine id (S.kO (α:=ax) E0 (t:=70) (k:=g.toNat) (off:=(eW.2 m.toNat).U.1.off+g.toNat*15) ahb (J.symm (J.symm (J.part d196 wz))) fun w N alm apN S up E1 d209 ajs T0=>?_)
  refine ar.last (by kernel_rfl) ?_
  have d212:=d209 _ (J.symm (J.part (J.symm d144) wz)) d197 gi.sub
  have d213:=d209 _ (J.symm (J.part (J.symm d146) wz)) d198 gH.sub
  have d214:=d209 _ (J.symm (J.part d189 wz)) d199 iR.sub
  replace gi:=gi.bw (J.symm (J.part (J.symm d144) wz)) up
  replace gH:=gH.bw (J.symm (J.part (J.symm d146) wz)) up
  replace iR:=iR.bw (J.symm (J.part d189 wz)) up
  clear d209 E0
  obtain⟨UP,lX,XT⟩:=Xg _ _ _ _ _ Wm up E1 ajs d196 (by show [R _ _]=[R _ _];rw [List.length_set]) (fun b h=>T0 b (agA b h))
  clear up E1 T0
  have afF:(av.I.set m.toNat ({el av.I m.toNat with U:=((el av.I m.toNat).U.set g.toNat (a4 (el (el h.I m.toNat).U g.toNat)))})).length=av.I.length:=List.length_set
  obtain⟨zv,RF⟩:∃z,z=av.I.set m.toNat ({el av.I m.toNat with U:=((el av.I m.toNat).U.set g.toNat (a4 (el (el h.I m.toNat).U g.toNat)))}):=⟨_,rfl⟩
  rw [←RF] at lX XT afF
  obtain⟨aoZ,amA⟩:=FP RF (show m.toNat<av.I.length by omega) List.length_set
  replace S:=S.z (σ':=⟨[(5,.p 0 0),(10,.p 2 0),(82,.v (GT.val (a4 (el (el h.I m.toNat).U g.toNat)) wo)),(83,.v (bg (eW.2 m.toNat).U.1.b ((eW.2 m.toNat).U.1.off+g.toNat*15)))],[[R (gf av.mem (cL h m g (cr (bm (el (el h.I m.toNat).U g.toNat))) (dB write) false).2.1 (dr (bm (el (el h.I m.toNat).U g.toNat))) (el (el h.I m.toNat).U g.toNat).acc).length BP.1,R av.I.length eW.1,R av.buf.length iH.1,R av.ag.length gQ.1],GT.cells (el (el h.I m.toNat).U g.toNat) ((ai.I.2 m.toNat).U.2 g.toNat),ck ah]⟩)
  replace S:=S.cast (σ':=⟨[(5,.p 0 0),(10,.p 2 0),(82,.v (GT.val (a4 (el (el h.I m.toNat).U g.toNat)) wo)),(83,.v (bg (eW.2 m.toNat).U.1.b ((eW.2 m.toNat).U.1.off+g.toNat*15)))],[[R (gf av.mem (cL h m g (cr (bm (el (el h.I m.toNat).U g.toNat))) (dB write) false).2.1 (dr (bm (el (el h.I m.toNat).U g.toNat))) (el (el h.I m.toNat).U g.toNat).acc).length BP.1,R zv.length eW.1,R av.buf.length iH.1,R av.ag.length gQ.1],GT.cells (el (el h.I m.toNat).U g.toNat) ((ai.I.2 m.toNat).U.2 g.toNat),ck ah]⟩) (by rw [show zv.length=av.I.length by omega])
  refine ar.done (by kernel_rfl) ?_ _
  refine S.ex fun S=>?_
  refine S.bq 9 .nil [GT.val (⟨(gf av.mem (cL h m g (cr (bm (el (el h.I m.toNat).U g.toNat))) (dB write) false).2.1 (dr (bm (el (el h.I m.toNat).U g.toNat))) (el (el h.I m.toNat).U g.toNat).acc),zv,av.buf,av.ag⟩:ah) (⟨BP,(eW.1,UP),iH,gQ⟩:cb)] fun ac w β S=>?_
  have ahg:=fi (x:=(⟨(gf av.mem (cL h m g (cr (bm (el (el h.I m.toNat).U g.toNat))) (dB write) false).2.1 (dr (bm (el (el h.I m.toNat).U g.toNat))) (el (el h.I m.toNat).U g.toNat).acc),zv,av.buf,av.ag⟩:ah)) (p:=(⟨BP,(eW.1,UP),iH,gQ⟩:cb)) iR lX gi gH (J.symm (J.or d189 (J.symm d214))) (J.symm d190) (J.symm d191) (J.symm (J.symm (J.or (J.symm d144) (J.symm d212)))) (J.symm (J.symm (J.or (J.symm d146) (J.symm d213)))) d142
  exact B4 S (show mg h m g (el (el h.I m.toNat).U g.toNat) write=(⟨(gf av.mem (cL h m g (cr (bm (el (el h.I m.toNat).U g.toNat))) (dB write) false).2.1 (dr (bm (el (el h.I m.toNat).U g.toNat))) (el (el h.I m.toNat).U g.toNat).acc),zv,av.buf,av.ag⟩:ah) from KH) rfl ahg
 refine S.go 1 .nil fun ac w β S=>?_
 refine dI ?_
 refine S.dP (f:=17) 16 (by kernel_rfl) (by kernel_rfl) fun w S=>?_
 refine S.hm 5 [0,1,2,3,4,5,6,7,8,9,10,11] [] [(35,.v (R (el av.I m.toNat).U.length (eW.2 m.toNat).U.1)),(36,.v (aa g)),(37,.v (GT.val (el (el h.I m.toNat).U g.toNat) ((ai.I.2 m.toNat).U.2 g.toNat))),(39,.v (R av.mem.length ki.1)),(40,.v (aa (cL h m g (cr (bm (el (el h.I m.toNat).U g.toNat))) (dB write) false).2.1)),(41,.v (aa (bm (el (el h.I m.toNat).U g.toNat))))] (.cons (cp fI.ak m Tryz.underlying28) (.cons (cz fI.ak 71 m.toNat 3 (R (el av.I m.toNat).U.length (eW.2 m.toNat).U.1)) .nil)) fun ac S=>?_
 refine S.iI 12 [] [(42,.v (aa (dr (bm (el (el h.I m.toNat).U g.toNat)))))] 3 [] (.cons (aE fun w hw=>PJ w (bm (el (el h.I m.toNat).U g.toNat)) (jU (kk bY (by clear S;first|rfl|exact pw (by assumption)) ((de.g0 _) m.toNat) (by omega) (by omega)))) .nil) fun ac w β S=>?_
 refine S.iI 13 [] [(43,.v (aa (fB av.mem (cL h m g (cr (bm (el (el h.I m.toNat).U g.toNat))) (dB write) false).2.1 (dr (bm (el (el h.I m.toNat).U g.toNat))))))] 3 [] (.cons (aE fun w hw=>Zo w av.mem ki (bN hT.ak hw) (cL h m g (cr (bm (el (el h.I m.toNat).U g.toNat))) (dB write) false).2.1 (dr (bm (el (el h.I m.toNat).U g.toNat)))) .nil) fun ac w β S=>?_
 refine ar.one (i:=14) (by kernel_rfl) ?_
 refine id (S.dz 44 (ZC w (el (el h.I m.toNat).U g.toNat) ((ai.I.2 m.toNat).U.2 g.toNat) (S.rd (kk fI (by clear S;first|rfl|exact pw (by assumption)) (x1 m.toNat) (by omega) (by omega))) (fB av.mem (cL h m g (cr (bm (el (el h.I m.toNat).U g.toNat))) (dB write) false).2.1 (dr (bm (el (el h.I m.toNat).U g.toNat)))) (Hn hT.ak (cL h m g (cr (bm (el (el h.I m.toNat).U g.toNat))) (dB write) false).2.1 (dr (bm (el (el h.I m.toNat).U g.toNat))))) fun ac w N rf Gc S up Bv d227=>?_)
 refine ar.next S up (by kernel_rfl) ?_
 have d228:=J.w d227 hT.sub
 have d229:=J.w d227 fI.sub
 have d230:=J.w d227 gi.sub
 have d231:=J.w d227 gH.sub
 replace hT:=hT.up up
 replace fI:=fI.up up
 replace gi:=gi.up up
 replace gH:=gH.up up
 clear up d227
 refine S.a9 15 [15] [] [(45,.v (bg (eW.2 m.toNat).U.1.b ((eW.2 m.toNat).U.1.off+g.toNat*15)))] (.cons (cp (aU.U (d:=(el av.I m.toNat)) (af.el fI.ak m.toNat (by omega))) g Tryz.underlying71) .nil) fun ac S=>?_
 refine ar.one (i:=16) (by kernel_rfl) ?_
 obtain⟨iW,fR,wA,Xi⟩:=o_ fI (k:=m.toNat) (show m.toNat<av.I.length by omega)
 have ao0:=af.le fR.ak
 have agD:=fR.sub
 refine id (S.kO (α:=ax) fR (t:=70) (k:=g.toNat) (off:=(eW.2 m.toNat).U.1.off+g.toNat*15) Bv (J.symm (J.symm (J.part d229 wA))) fun w N alo apO S up Un d241 ajw T1=>?_)
 refine ar.last (by kernel_rfl) ?_
 have d244:=d241 _ (J.symm (J.part (J.symm d147) wA)) d228 hT.sub
 have d245:=d241 _ (J.symm (J.part (J.symm d144) wA)) d230 gi.sub
 have d246:=d241 _ (J.symm (J.part (J.symm d146) wA)) d231 gH.sub
 replace hT:=hT.bw (J.symm (J.part (J.symm d147) wA)) up
 replace gi:=gi.bw (J.symm (J.part (J.symm d144) wA)) up
 replace gH:=gH.bw (J.symm (J.part (J.symm d146) wA)) up
 clear d241 fR
 obtain⟨UQ,Up,XU⟩:=Xi _ _ _ _ _ Gc up Un ajw d229 (by show [R _ _]=[R _ _];rw [List.length_set]) (fun b h=>T1 b (agD b h))
 clear up Un T1
 have afH:(av.I.set m.toNat ({el av.I m.toNat with U:=((el av.I m.toNat).U.set g.toNat (h5 (el (el h.I m.toNat).U g.toNat) (fB av.mem (cL h m g (cr (bm (el (el h.I m.toNat).U g.toNat))) (dB write) false).2.1 (dr (bm (el (el h.I m.toNat).U g.toNat))))))})).length=av.I.length:=List.length_set
 obtain⟨zw,RH⟩:∃z,z=av.I.set m.toNat ({el av.I m.toNat with U:=((el av.I m.toNat).U.set g.toNat (h5 (el (el h.I m.toNat).U g.toNat) (fB av.mem (cL h m g (cr (bm (el (el h.I m.toNat).U g.toNat))) (dB write) false).2.1 (dr (bm (el (el h.I m.toNat).U g.toNat))))))}):=⟨_,rfl⟩
 rw [←RH] at Up XU afH
 obtain⟨ao3,amB⟩:=FP RH (show m.toNat<av.I.length by omega) List.length_set
 replace S:=S.z (σ':=⟨[(5,.p 0 0),(10,.p 2 0),(44,.v (GT.val (h5 (el (el h.I m.toNat).U g.toNat) (fB av.mem (cL h m g (cr (bm (el (el h.I m.toNat).U g.toNat))) (dB write) false).2.1 (dr (bm (el (el h.I m.toNat).U g.toNat))))) rf)),(45,.v (bg (eW.2 m.toNat).U.1.b ((eW.2 m.toNat).U.1.off+g.toNat*15)))],[[R av.mem.length ki.1,R av.I.length eW.1,R av.buf.length iH.1,R av.ag.length gQ.1],GT.cells (el (el h.I m.toNat).U g.toNat) ((ai.I.2 m.toNat).U.2 g.toNat),ck ah]⟩)
 replace S:=S.cast (σ':=⟨[(5,.p 0 0),(10,.p 2 0),(44,.v (GT.val (h5 (el (el h.I m.toNat).U g.toNat) (fB av.mem (cL h m g (cr (bm (el (el h.I m.toNat).U g.toNat))) (dB write) false).2.1 (dr (bm (el (el h.I m.toNat).U g.toNat))))) rf)),(45,.v (bg (eW.2 m.toNat).U.1.b ((eW.2 m.toNat).U.1.off+g.toNat*15)))],[[R av.mem.length ki.1,R zw.length eW.1,R av.buf.length iH.1,R av.ag.length gQ.1],GT.cells (el (el h.I m.toNat).U g.toNat) ((ai.I.2 m.toNat).U.2 g.toNat),ck ah]⟩) (by rw [show zw.length=av.I.length by omega])
 refine ar.done (by kernel_rfl) ?_ _
 refine S.ex fun S=>?_
 refine S.bq 9 .nil [GT.val (⟨av.mem,zw,av.buf,av.ag⟩:ah) (⟨ki,(eW.1,UQ),iH,gQ⟩:cb)] fun ac w β S=>?_
 have Bw:=fi (x:=(⟨av.mem,zw,av.buf,av.ag⟩:ah)) (p:=(⟨ki,(eW.1,UQ),iH,gQ⟩:cb)) hT Up gi gH (J.symm (J.or (J.symm d147) (J.symm d244))) (J.symm d143) (J.symm d145) (J.symm (J.symm (J.or (J.symm d144) (J.symm d245)))) (J.symm (J.symm (J.or (J.symm d146) (J.symm d246)))) d142
 exact B4 S (show mg h m g (el (el h.I m.toNat).U g.toNat) write=(⟨av.mem,zw,av.buf,av.ag⟩:ah) from KH) rfl Bw
theorem KB {p:Prop} (h:p:=by clear S;(unfold hO;first|(rw [Bool.eq_iff_iff];simp_all;done)|(rw [Bool.eq_iff_iff];simp_all [a3];omega)|(simp_all;done))):p:=h
theorem zJ (w0:World) (aX:Int) (hV:Int):Calls Tryz.prog 230 [aa aX,aa hV].toArray w0 (fun e w'=>e= .returned (B (hO aX hV))/\bu ab w0 w'):=by
 refine Calls.run ab Tryz.func230 ?_
 intro ac β S
 refine S.bb 10 (.cons (aE fun w hw=>fw w aX 0 3) .nil) (a3 aX 0 3) (fun ac w β h1 S=>?_) (fun ac w β h1 S=>?_)
 ·have a8:=cU h1
  refine S.bb 4 (.cons (aE fun w hw=>fw w hV 1 2) .nil) (a3 hV 1 2) (fun ac w β aF S=>?_) (fun ac w β aF S=>?_)
  ·have cB:=cU aF
   exact S.aq 9 (.cons (qC (x:=aX) (y:=hV)) .nil) [B ((jH aX hV) != 0)] (a6 KB)
  have dK:=dm aF
  exact S.aq 9 .nil [B false] (a6 KB)
 have c7:=dm h1
 exact S.aq 13 .nil [B false] (a6 KB)
theorem PU (w0:World) (outer:Int) (inner:Int) (hV:Int):Calls Tryz.prog 122 [aa outer,aa inner,aa hV].toArray w0 (fun e w'=>e= .returned (aa (hQ outer inner hV))/\bu ab w0 w'):=by
 refine Calls.run ab Tryz.func122 ?_
 intro ac β S
 refine S.bb 13 (.cons (aE fun w hw=>zJ w inner hV) .nil) (hO inner hV) (fun ac w β h1 S=>?_) (fun ac w β h1 S=>?_)
 ·exact S.aq 7 .nil [aa 1] (b3 (by clear S;(simp [hQ, *])))
 refine S.bb 11 (.cons (aE fun w hw=>zJ w outer hV) .nil) (hO outer hV) (fun ac w β an S=>?_) (fun ac w β an S=>?_)
 ·exact S.aq 7 .nil [aa 2] (b3 (by clear S;(simp [hQ, *])))
 exact S.aq 9 .nil [aa 0] (b3 (by clear S;(simp [hQ, *])))
theorem Zn (w0:World) (n:Int) (cX:a_ n):Calls Tryz.prog 231 [aa n].toArray w0 (fun e w'=>e= .returned (GT.val (ma n) ())/\bu ab w0 w'):=by
 refine Calls.run ab Tryz.func231 ?_
 intro ac β S
 have yj:=cX.lo;have yb:=cX.hi
 exact S.aq 13 (.cons (fT (s:=Instr.build 68 [(0,aa 2),(3,aa n)].toArray) (v:= .agg [aa 2,aa 0,B false,aa n].toArray) (fun w=>by kernel_rfl)) .nil) [GT.val (⟨2,0,false,n⟩:df) ()] (hU (p:=()) (by clear S;rfl))
theorem ZG (w0:World) (n:Int) (cX:a_ n):Calls Tryz.prog 232 [aa n].toArray w0 (fun e w'=>e= .returned (GT.val (me n) ())/\bu ab w0 w'):=by
 refine Calls.run ab Tryz.func232 ?_
 intro ac β S
 have yj:=cX.lo;have yb:=cX.hi
 exact S.aq 13 (.cons (fT (s:=Instr.build 68 [(0,aa 3),(3,aa n)].toArray) (v:= .agg [aa 3,aa 0,B false,aa n].toArray) (fun w=>by kernel_rfl)) .nil) [GT.val (⟨3,0,false,n⟩:df) ()] (hU (p:=()) (by clear S;rfl))
theorem PS (w0:World) (g:ax) (bc:c6) (aJ:bT w0 g bc):Calls Tryz.prog 233 [GT.val g bc].toArray w0 (dw ab w0 (jA g:ax)):=by
 refine Calls.run ab Tryz.func233 ?_
 intro ac β S
 have iy:g.prog.length<=4194304:=af.le (az.prog (d:=g) aJ)
 have iA:g.written.length<=4194304:=af.le (az.written (d:=g) aJ)
 have ix:g.live.length<=4194304:=af.le (az.live (d:=g) aJ)
 have iz:g.seen.length<=4194304:=af.le (az.seen (d:=g) aJ)
 refine S.go 15 .nil fun ac w β S=>S.cN (r:=a4 (⟨g.prog,g.acc,g.aw,g.written,g.live,g.aN,g.aB,g.exit,true,g.seen⟩:ax)) (d:=5) (pT w (⟨g.prog,g.acc,g.aw,g.written,g.live,g.aN,g.aB,g.exit,true,g.seen⟩:ax) (⟨bc.prog,bc.written,bc.live,bc.seen⟩:c6) (S.rd (show GT.rd b7 _ _ (⟨g.prog,g.acc,g.aw,g.written,g.live,g.aN,g.aB,g.exit,true,g.seen⟩:ax) (⟨bc.prog,bc.written,bc.live,bc.seen⟩:c6) from⟨(az.prog (p:=bc) (d:=g) (S.arg aJ)),(az.acc (d:=g) (S.arg aJ)),(az.aw (d:=g) (S.arg aJ)),(az.written (p:=bc) (d:=g) (S.arg aJ)),(az.live (p:=bc) (d:=g) (S.arg aJ)),(az.aN (d:=g) (S.arg aJ)),(az.aB (d:=g) (S.arg aJ)),(az.exit (d:=g) (S.arg aJ)),(az.seen (p:=bc) (d:=g) (S.arg aJ))⟩))) fun ac w N ae br S up aD d4=>?_
 clear up d4
 refine S.bq 4 .nil [GT.val (a4 (⟨g.prog,g.acc,g.aw,g.written,g.live,g.aN,g.aB,g.exit,true,g.seen⟩:ax)) ae] fun ac w β S=>?_
 exact cx S (show jA g=(a4 (⟨g.prog,g.acc,g.aw,g.written,g.live,g.aN,g.aB,g.exit,true,g.seen⟩:ax)) by clear S;rfl) rfl aD
theorem mu {p:Prop} (h:p:=by clear S;(unfold dN;(repeat' split)<;>first|rfl|(exfalso;omega)|(exfalso;simp_all;done)|(exfalso;simp_all;omega)|(simp_all;done))):p:=h
theorem ZT (w0:World) (x:ax) (ih:c6) (hx:bT w0 x ih) (aX:Int) (want:Int):Calls Tryz.prog 123 [GT.val x ih,aa aX,aa want].toArray w0 (rC ab w0 ((dN x aX want).1:ax) ((dN x aX want).2:Bool)):=by
 refine Calls.run ab Tryz.func123 ?_
 intro ac β S
 have Sv:x.prog.length<=4194304:=af.le (az.prog (d:=x) hx)
 have Sx:x.written.length<=4194304:=af.le (az.written (d:=x) hx)
 have Su:x.live.length<=4194304:=af.le (az.live (d:=x) hx)
 have Sw:x.seen.length<=4194304:=af.le (az.seen (d:=x) hx)
 refine S.aI 27 (.cons (aE fun w hw=>uz w x.prog ih.prog (bN (az.prog (d:=x) (S.arg hx)) hw) x.aw) .nil) (want==6) (fun ac w β h1 a8 S=>?_) (fun ac w β h1 a8 S=>?_)
 ·refine S.go 2 .nil fun ac w β S=>?_
  refine dI ?_
  refine S.dP (f:=7) 5 (by kernel_rfl) (by kernel_rfl) fun w S=>?_
  refine S.hm 4 [0,1,2] [] [(17,.v (GT.val x ih)),(19,.v (aa (bF x.prog x.aw).x))] .nil fun ac S=>?_
  refine S.iI 3 [] [(20,.v (GT.val (ma (bF x.prog x.aw).x) ()))] 3 [] (.cons (aE fun w hw=>Zn w (bF x.prog x.aw).x (iY.x (d:=(bF x.prog x.aw)) (lV (az.prog (d:=x) (S.arg hx)) x.aw))) .nil) fun ac w β S=>?_
  refine ar.one (i:=4) (by kernel_rfl) ?_
  refine id (S.dz 21 (zK w x ih (S.rd (S.arg hx)) (ma (bF x.prog x.aw).x) (P3 (iY.x (d:=(bF x.prog x.aw)) (lV (az.prog (d:=x) (S.arg hx)) x.aw)))) fun ac w N sz e4 S up bY d6=>?_)
  refine ar.next S up (by kernel_rfl) ?_
  clear up d6
  refine S.c9 5 [] [] 3 [(1,GT.cells ({x with exit:=(ma (bF x.prog x.aw).x)}:ax) sz)] .nil fun ac w β S=>?_
  refine S.c9 6 [] [(7,.v (B false))] 3 [] .nil fun ac w β S=>?_
  refine ar.done (by kernel_rfl) ?_ _
  refine S.ex fun S=>?_
  refine S.bq 2 .nil [GT.val ({x with exit:=(ma (bF x.prog x.aw).x)}:ax) sz,B false] fun ac w β S=>?_
  exact f_ (p':=()) S (show(dN x aX want).1=({x with exit:=(ma (bF x.prog x.aw).x)}:ax) from mu) (show(dN x aX want).2=false from mu) rfl rfl bY trivial
 refine S.aI 6 .nil (want==5) (fun ac w β cD e_ S=>?_) (fun ac w β cD e_ S=>?_)
 ·refine S.bb 6 (.cons (aE fun w hw=>zJ w aX 1) .nil) (hO aX 1) (fun ac w β et S=>?_) (fun ac w β et S=>?_)
  ·refine S.go 2 .nil fun ac w β S=>?_
   refine dI ?_
   refine S.dP (f:=7) 5 (by kernel_rfl) (by kernel_rfl) fun w S=>?_
   refine S.hm 4 [0,1,2] [] [(29,.v (GT.val x ih)),(31,.v (aa (bF x.prog x.aw).x))] .nil fun ac S=>?_
   refine S.iI 3 [] [(32,.v (GT.val (me (bF x.prog x.aw).x) ()))] 3 [] (.cons (aE fun w hw=>ZG w (bF x.prog x.aw).x (iY.x (d:=(bF x.prog x.aw)) (lV (az.prog (d:=x) (S.arg hx)) x.aw))) .nil) fun ac w β S=>?_
   refine ar.one (i:=4) (by kernel_rfl) ?_
   refine id (S.dz 33 (zK w x ih (S.rd (S.arg hx)) (me (bF x.prog x.aw).x) (UB (iY.x (d:=(bF x.prog x.aw)) (lV (az.prog (d:=x) (S.arg hx)) x.aw)))) fun ac w N fY e3 S up bG d13=>?_)
   refine ar.next S up (by kernel_rfl) ?_
   clear up d13
   refine S.c9 5 [] [] 3 [(1,GT.cells ({x with exit:=(me (bF x.prog x.aw).x)}:ax) fY)] .nil fun ac w β S=>?_
   refine S.c9 6 [] [(7,.v (B false))] 3 [] .nil fun ac w β S=>?_
   refine ar.done (by kernel_rfl) ?_ _
   refine S.ex fun S=>?_
   refine S.bq 2 .nil [GT.val ({x with exit:=(me (bF x.prog x.aw).x)}:ax) fY,B false] fun ac w β S=>?_
   exact f_ (p':=()) S (show(dN x aX want).1=({x with exit:=(me (bF x.prog x.aw).x)}:ax) from mu) (show(dN x aX want).2=false from mu) rfl rfl bG trivial
  refine S.aI 6 .nil (want==7) (fun ac w β h9 lM S=>?_) (fun ac w β h9 lM S=>?_)
  ·refine S.bb 6 (.cons (aE fun w hw=>zJ w aX 2) .nil) (hO aX 2) (fun ac w β lO S=>?_) (fun ac w β lO S=>?_)
   ·refine S.go 5 (.cons (fT (s:=Instr.build 68 [(0,aa 4)].toArray) (v:= .agg [aa 4,aa 0,B false,aa 0].toArray) (fun w=>by kernel_rfl)) .nil) fun ac w β S=>S.cN (r:=({x with exit:=(⟨4,0,false,0⟩:df)}:ax)) (d:=43) (zK w x ih (S.rd (S.arg hx)) (⟨4,0,false,0⟩:df) (show fF (⟨4,0,false,0⟩:df) from⟨(show a_ 4 from⟨by decide,by decide⟩),(show a_ 0 from⟨by decide,by decide⟩),(show a_ 0 from⟨by decide,by decide⟩)⟩)) fun ac w N wm kn S up iD d20=>?_
    clear up d20
    refine S.bq 5 .nil [GT.val ({x with exit:=(⟨4,0,false,0⟩:df)}:ax) wm,B false] fun ac w β S=>?_
    exact f_ (p':=()) S (show(dN x aX want).1=({x with exit:=(⟨4,0,false,0⟩:df)}:ax) from mu) (show(dN x aX want).2=false from mu) rfl rfl iD trivial
   refine S.go 8 .nil fun ac w β S=>?_
   refine S.lt 44 h9 fun S=>?_
   refine S.go 4 .nil fun ac w β S=>S.cN (r:=jA x) (d:=48) (PS w x ih (S.rd (S.arg hx))) fun ac w N dd fD S up ba d24=>?_
   clear up d24
   refine S.bq 5 .nil [GT.val (jA x) dd,B true] fun ac w β S=>?_
   exact f_ (p':=()) S (show(dN x aX want).1=(jA x) from mu) (show(dN x aX want).2=true from mu) rfl rfl ba trivial
  refine S.go 14 .nil fun ac w β S=>?_
  refine S.lt 44 h9 fun S=>?_
  refine S.go 7 .nil fun ac w β S=>S.cN (r:=a4 x) (d:=50) (pT w x ih (S.rd (S.arg hx))) fun ac w N kg kS S up dQ d28=>?_
  clear up d28
  refine S.bq 5 .nil [GT.val (a4 x) kg,B true] fun ac w β S=>?_
  exact f_ (p':=()) S (show(dN x aX want).1=(a4 x) from mu) (show(dN x aX want).2=true from mu) rfl rfl dQ trivial
 refine S.aI 12 .nil (want==7) (fun ac w β i_ nL S=>?_) (fun ac w β i_ nL S=>?_)
 ·refine S.bb 6 (.cons (aE fun w hw=>zJ w aX 2) .nil) (hO aX 2) (fun ac w β lQ S=>?_) (fun ac w β lQ S=>?_)
  ·refine S.go 5 (.cons (fT (s:=Instr.build 68 [(0,aa 4)].toArray) (v:= .agg [aa 4,aa 0,B false,aa 0].toArray) (fun w=>by kernel_rfl)) .nil) fun ac w β S=>S.cN (r:=({x with exit:=(⟨4,0,false,0⟩:df)}:ax)) (d:=43) (zK w x ih (S.rd (S.arg hx)) (⟨4,0,false,0⟩:df) (show fF (⟨4,0,false,0⟩:df) from⟨(show a_ 4 from⟨by decide,by decide⟩),(show a_ 0 from⟨by decide,by decide⟩),(show a_ 0 from⟨by decide,by decide⟩)⟩)) fun ac w N fZ qy S up ie d35=>?_
   clear up d35
   refine S.bq 5 .nil [GT.val ({x with exit:=(⟨4,0,false,0⟩:df)}:ax) fZ,B false] fun ac w β S=>?_
   exact f_ (p':=()) S (show(dN x aX want).1=({x with exit:=(⟨4,0,false,0⟩:df)}:ax) from mu) (show(dN x aX want).2=false from mu) rfl rfl ie trivial
  refine S.go 8 .nil fun ac w β S=>?_
  refine S.lt 44 i_ fun S=>?_
  refine S.go 4 .nil fun ac w β S=>S.cN (r:=jA x) (d:=48) (PS w x ih (S.rd (S.arg hx))) fun ac w N BQ CM S up lp d39=>?_
  clear up d39
  refine S.bq 5 .nil [GT.val (jA x) BQ,B true] fun ac w β S=>?_
  exact f_ (p':=()) S (show(dN x aX want).1=(jA x) from mu) (show(dN x aX want).2=true from mu) rfl rfl lp trivial
 refine S.go 14 .nil fun ac w β S=>?_
 refine S.lt 44 i_ fun S=>?_
 refine S.go 7 .nil fun ac w β S=>S.cN (r:=a4 x) (d:=50) (pT w x ih (S.rd (S.arg hx))) fun ac w N Fz n3 S up kd d43=>?_
 clear up d43
 refine S.bq 5 .nil [GT.val (a4 x) Fz,B true] fun ac w β S=>?_
 exact f_ (p':=()) S (show(dN x aX want).1=(a4 x) from mu) (show(dN x aX want).2=true from mu) rfl rfl kd trivial
end Go.Proofs.YtjlocpdfcanlhaaGreat
