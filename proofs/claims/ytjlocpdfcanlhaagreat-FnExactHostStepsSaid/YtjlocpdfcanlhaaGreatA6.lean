/- The walks: what each function that the laws reach computes (part 2). -/
import Derived.Test.YtjlocpdfcanlhaaGreatA5
import Derived.Test.YtjlocpdfcanlhaaGreatProg
import Derived.KernelRfl
namespace Go.Proofs.YtjlocpdfcanlhaaGreat
open Go
set_option linter.unusedVariables false
set_option linter.unusedSimpArgs false
set_option maxRecDepth 100000
set_option maxHeartbeats 2000000
theorem TZ {p:Prop} (h:p:=by clear S;(first|(unfold hn;rw [if_pos (by omega)];done)|(unfold hn;rw [if_pos (by omega)];first|rfl|(simp;done))|(unfold hn;rw [if_neg (by omega)];done)|(unfold hn;rw [if_neg (by omega)];first|rfl|(simp;done)))):p:=h
theorem aaa (w0:World) (m:List (List Int)) (pm:aD (List Int)) (hm:bQ w0 m pm) (page:Int):Calls Tryz.prog 318 [R m.length pm.1,aa page].toArray w0 (dw ab w0 (hn m page:List Int)):=by
 refine Calls.run ab Tryz.func318 ?_
 intro ac β S
 have q6:m.length<=4194304:=ae.le hm
 refine S.bd 16 (.cons (hf (m.length:Int) 1) (.cons (aE fun w hw=>fE w page 0 ((m.length:Int)-1)) .nil)) (!(a3 page 0 ((m.length:Int)-1))) (fun ac w β h1 S=>?_) (fun ac w β h1 S=>?_)
 ·have an:=cm h1
  have b7:=dn an
  refine S.go 3 .nil fun ac w β S=>S.mT (α:=Int) (m:=4) (by':=8) (d:=11) (by omega) (show 4<=4194304 by omega) fun ac w N qz dU S up bL d7=>?_
  clear up d7
  refine S.bo 4 .nil [R 4 qz.1] fun ac w β S=>?_
  exact cy S (show hn m page=(List.replicate 4 (GT.eR:Int)) from TZ) (by rw [show 4=(List.replicate 4 (GT.eR:Int)).length from(by simp)];rfl) bL
 have dc:=b9 h1
 have fF:=cV dc
 refine S.go 5 .nil fun ac w β S=>S.gE (α:=Int) (d:=12) fun ac w N eM eh S up bA d13=>?_
 clear up d13
 have OX:(el m page.toNat).length<=4194304:=ae.le (ae.el (S.arg hm) page.toNat (by omega))
 refine S.go 4 (.cons (cq (S.arg hm) page Tryz.underlying22) (.cons (cj (S.arg hm) 38 page.toNat) .nil)) fun ac w β S=>S.lG (α:=Int) bA (ae.el (S.arg hm) page.toNat (by omega)) (fun _ _ h=>h) (by':=8) (d:=17) (lx:=0) (ly:=(el m page.toNat).length) rfl fun ac w N n6 pT S up gK d17=>?_
 clear up d17
 refine S.bo 4 .nil [R (el m page.toNat).length n6.1] fun ac w β S=>?_
 exact cy S (show hn m page=(el m page.toNat) from TZ) rfl gK
theorem aah (w0:World) (t:List aR) (bh:aD aR) (bx:bQ w0 t bh) (page:Int):Calls Tryz.prog 346 [R t.length bh.1,aa page].toArray w0 (dw ab w0 (gy t page:List Int)):=by
 refine Calls.run ab Tryz.func346 ?_
 intro ac β S
 have Bh:t.length<=4194304:=ae.le bx
 refine S.go 7 .nil fun ac w β S=>S.gE (α:=Int) (d:=7) fun ac w N af br S up aA d4=>?_
 clear up d4
 refine S.go 10 .nil fun ac w β S=>?_
 refine c8 (fun a4 ac w=>∃(k:Nat) (acc:List Int) (bM:_) (cT:_) (u:_) (N:_) (β:_),a4=t.length-k/\(k<=t.length)/\(acc=lO k (fun i=>decide ((el t i).page=page)))/\aj Tryz.prog Tryz.f346.ntmps w0 ab u N β ⟨[(0,.v (R t.length bh.1)),(1,.v (aa page)),(5,.v (R acc.length bM.1)),(6,.v (aa (k:Int)))],[]⟩ ac w/\ad w0 ab u N cT acc bM) _ ⟨0,([]:List Int),af,br,_,_,_,rfl,cw,(by rfl),S.z,aA⟩ ?_
 clear S aA
 rintro f8 a4 e0 ac w ⟨k,acc,bM,cT,u,N,β,rfl,hk,bz,S,ao⟩
 refine S.rs fun S=>?_
 have gI:acc.length<=k:=by rw [bz];exact yN _ _
 refine S.aI 9 .nil (decide ((k:Int)<(t.length:Int))) (fun ac w β c2 eb S=>?_) (fun ac w β c2 eb S=>?_)
 ·refine S.aI 16 (.cons (b5 (S.arg bx) k Tryz.underlying64) (.cons (cA (S.arg bx) 3 k 0 (aa (el t k).page)) .nil)) ((el t k).page==page) (fun ac w β ec hC S=>?_) (fun ac w β ec hC S=>?_)
  ·refine S.go 4 .nil fun ac w β S=>S.h3 (α:=Int) (x:=(k:Int)) (p:=()) (F:=ab) ⟨by omega,by omega⟩ (fun b h=>False.elim h) (fun b h=>False.elim h) (d:=23) fun ac w N n6 pT S up gK d17=>?_
   replace ao:=ao.up up
   clear up d17
   refine S.kq (α:=Int) ao gK.ak (fun _ _ h=>h) (by':=8) (d:=24) (lx:=acc.length) (ly:=1) rfl rfl (show _<=4194304 by simp only [List.length_append,List.length_cons,List.length_nil];omega) fun ac w N dy h4 S up il d22=>?_
   clear up d22
   refine S.ge 9 (.cons (cc (k:Int) 1) .nil) f8 fun ac w β S=>e0.of (t.length-(k+1)) _ _ (by omega) ⟨k+1,(acc++[(k:Int)]),dy,h4,_,_,_,rfl,?_,?_,S.z,il⟩
   ·exact cK
   ·clear S;(first|(rw [mD (by first|assumption|(simp [*];done)|(simp;omega)),bz];done)|(rw [mC (by first|assumption|(simp [*];done)|(simp;omega)),bz];done)|(rw [mD (by simp_all<;>fail),bz];done)|(rw [mC (by simp_all<;>fail),bz];done))
  refine S.ge 9 (.cons (cc (k:Int) 1) .nil) f8 fun ac w β S=>e0.of (t.length-(k+1)) _ _ (by omega) ⟨k+1,acc,bM,cT,_,_,_,rfl,?_,?_,S.z,ao⟩
  ·exact cK
  ·clear S;(first|(rw [mD (by first|assumption|(simp [*];done)|(simp;omega)),bz];done)|(rw [mC (by first|assumption|(simp [*];done)|(simp;omega)),bz];done)|(rw [mD (by simp_all<;>fail),bz];done)|(rw [mC (by simp_all<;>fail),bz];done))
 refine S.bo 13 .nil [R acc.length bM.1] fun ac w β S=>?_
 exact cy S (show gy t page=acc by clear S;(unfold gy;rw [bz,show t.length=k by omega])) rfl ao
theorem TU {p:Prop} (h:p:=by clear S;(unfold ke;(repeat' split)<;>first|rfl|(exfalso;omega)|(exfalso;simp_all;done))):p:=h
theorem ZZ (w0:World) (k:bS) (et:fx) (hk:bQ w0 k et) (page:Int):Calls Tryz.prog 173 [GT.val k et,aa page].toArray w0 (dw ab w0 (ke k page:bS)):=by
 refine Calls.run ab Tryz.func173 ?_
 intro ac β S
 have q4:k.known.length<=4194304:=ae.le (ey.known (d:=k) hk)
 have q5:k.aZ.length<=4194304:=ae.le (ey.aZ (d:=k) hk)
 refine S.go 9 .nil fun ac w β S=>S.cJ (r:=k) (d:=6) (DO w k et (S.rd (S.arg hk))) fun ac w N af br S up aA d4=>?_
 clear up d4
 obtain⟨dU,e7,bL,bF,_,_,d11⟩:=uu aA
 refine S.bd 11 (.cons (aE fun w hw=>HQ w k af (bJ (show GT.rd b6 _ _ k af from⟨bL.ak,bF.ak⟩) hw) page) .nil) (decide ((0<=page/\page<k.known.length)/\page<k.aZ.length)) (fun ac w β ec S=>?_) (fun ac w β ec S=>?_)
 ·have hC:=of_decide_eq_true ec
  refine S.go 7 (.cons (cq bL.ak page Tryz.underlying39) .nil) fun ac w β S=>S.fQ (α:=Bool) bL (t:=4) (k:=page.toNat) (j:=0) (off:=af.known.1.off+page.toNat*1) (v:=B false) (y:=false) (q:=()) (fun _ _ _=>⟨ab,trivial,fun _ h=>False.elim h⟩) fun w N pT cv S up c3 d17 aqK ag9=>?_
  have d20:=d17 _ (J.symm d11) (fun b _ h=>False.elim h) bF.sub
  replace bF:=bF.bk (J.symm d11) up
  clear up d17 bL ag9
  have apG:(k.known.set page.toNat false).length=k.known.length:=List.length_set
  replace S:=S.z (σ':=⟨[(1,.v (aa page)),(2,.p 0 0),(4,.p 1 0),(13,.v (bh af.known.1.b (af.known.1.off+page.toNat*1)))],[[R k.known.length af.known.1,R k.aZ.length af.aZ.1],cg bS]⟩)
  replace S:=S.cast (σ':=⟨[(1,.v (aa page)),(2,.p 0 0),(4,.p 1 0),(13,.v (bh af.known.1.b (af.known.1.off+page.toNat*1)))],[[R (k.known.set page.toNat false).length af.known.1,R k.aZ.length af.aZ.1],cg bS]⟩) (by rw [show(k.known.set page.toNat false).length=k.known.length by omega])
  refine S.is fun S=>?_
  refine S.go 2 .nil fun ac w β S=>?_
  refine dI ?_
  refine S.dR (f:=6) 5 (by kernel_rfl) (by kernel_rfl) fun w S=>?_
  refine S.hm 3 [0,1,2] [] [(15,.v (R k.aZ.length af.aZ.1)),(16,.v (aa page))] .nil fun ac S=>?_
  refine S.iN 3 [] [(17,.v (GT.val (⟨-1,0⟩:aR) ()))] 2 [] (.cons (aE fun w hw=>nK w) .nil) fun ac w β S=>?_
  refine S.a9 4 [4] [] [(18,.v (bh af.aZ.1.b (af.aZ.1.off+page.toNat*2)))] (.cons (cq bF.ak page Tryz.underlying64) .nil) fun ac S=>?_
  refine ar.one (i:=5) (by kernel_rfl) ?_
  have ang:ed (el k.aZ page.toNat):=(ae.el bF.ak page.toNat (by omega))
  refine id (S.zi (α:=aR) bF (t:=111) (k:=page.toNat) (j:=0) (off:=af.aZ.1.off+page.toNat*2) (v:=GT.val (⟨-1,0⟩:aR) ()) (y:=(⟨-1,0⟩:aR)) (q:=()) (fun _ _ _=>⟨ab,(show ed ⟨-1,0⟩ from⟨⟨by decide,by decide⟩,⟨by decide,by decide⟩⟩),fun _ h=>False.elim h⟩) fun w N mf kR S up bb d26 aqN ahi=>?_)
  refine ar.last (by kernel_rfl) ?_
  have d29:=d26 _ (J.symm d20) (fun b _ h=>False.elim h) c3.sub
  replace c3:=c3.bk (J.symm d20) up
  clear up d26 bF ahi
  have T8:(k.aZ.set page.toNat (⟨-1,0⟩:aR)).length=k.aZ.length:=List.length_set
  replace S:=S.z (σ':=⟨[(2,.p 0 0),(4,.p 1 0),(17,.v (GT.val (⟨-1,0⟩:aR) ())),(18,.v (bh af.aZ.1.b (af.aZ.1.off+page.toNat*2)))],[[R (k.known.set page.toNat false).length af.known.1,R k.aZ.length af.aZ.1],cg bS]⟩)
  replace S:=S.cast (σ':=⟨[(2,.p 0 0),(4,.p 1 0),(17,.v (GT.val (⟨-1,0⟩:aR) ())),(18,.v (bh af.aZ.1.b (af.aZ.1.off+page.toNat*2)))],[[R (k.known.set page.toNat false).length af.known.1,R (k.aZ.set page.toNat (⟨-1,0⟩:aR)).length af.aZ.1],cg bS]⟩) (by rw [show(k.aZ.set page.toNat (⟨-1,0⟩:aR)).length=k.aZ.length by omega])
  refine ar.done (by kernel_rfl) ?_ _
  refine S.ex fun S=>?_
  refine S.bo 8 .nil [GT.val (⟨(k.known.set page.toNat false),(k.aZ.set page.toNat (⟨-1,0⟩:aR))⟩:bS) (⟨(af.known.1,cv),(af.aZ.1,kR)⟩:fx)] fun ac w β S=>?_
  have l7:=ma (x:=(⟨(k.known.set page.toNat false),(k.aZ.set page.toNat (⟨-1,0⟩:aR))⟩:bS)) (p:=(⟨(af.known.1,cv),(af.aZ.1,kR)⟩:fx)) c3 bb d29
  exact cy S (show ke k page=(⟨(k.known.set page.toNat false),(k.aZ.set page.toNat (⟨-1,0⟩:aR))⟩:bS) from TU) rfl l7
 have vf:=of_decide_eq_false ec
 refine S.bo 10 .nil [GT.val k af] fun ac w β S=>?_
 have gz:=ma (x:=k) (p:=af) bL bF d11
 exact cy S (show ke k page=k from TU) rfl gz
theorem Z0 (w0:World) (k:bS) (et:fx) (hk:bQ w0 k et) (inner:List aR) (jh:aD aR) (k5:bQ w0 inner jh) (page:Int):Calls Tryz.prog 322 [GT.val k et,R inner.length jh.1,aa page].toArray w0 (dw ab w0 (nO k inner page:bS)):=by
 refine Calls.run ab Tryz.func322 ?_
 intro ac β S
 have q4:k.known.length<=4194304:=ae.le (ey.known (d:=k) hk)
 have q5:k.aZ.length<=4194304:=ae.le (ey.aZ (d:=k) hk)
 have Bg:inner.length<=4194304:=ae.le k5
 refine S.go 9 .nil fun ac w β S=>S.cJ (r:=k) (d:=10) (DO w k et (S.rd (S.arg hk))) fun ac w N af br S up aA d4=>?_
 clear up d4
 obtain⟨dU,e7,bL,bF,_,_,d11⟩:=uu aA
 refine S.go 7 .nil fun ac w β S=>S.cJ (r:=gy inner page) (d:=13) (aah w inner jh (S.rd (S.arg k5)) page) fun ac w N jP gf S up c3 d15=>?_
 have d16:=J.w d15 bL.sub
 have d17:=J.w d15 bF.sub
 replace bL:=bL.up up
 replace bF:=bF.up up
 clear up d15
 refine S.go 10 .nil fun ac w β S=>?_
 refine c8 (fun a4 ac w=>∃(i:Nat) (iH:List Bool) (c_:List aR) (j6:_) (kr:_) (c9:_) (fJ:_) (u:_) (N:_) (β:_),a4=(gy inner page).length-i/\(i<=(gy inner page).length)/\((⟨iH,c_⟩:bS)=((gy inner page).take i).foldl ke k)/\aj Tryz.prog Tryz.f322.ntmps w0 ab u N β ⟨[(3,.p 0 0),(6,.p 1 0),(7,.v (R (gy inner page).length jP.1)),(8,.v (aa (i:Int)))],[[R iH.length j6.1,R c_.length c9.1],cg bS]⟩ ac w/\ad w0 ab u N kr iH j6/\ad w0 ab u N fJ c_ c9/\ad w0 ab u N gf (gy inner page) jP/\J kr fJ/\J kr gf/\J fJ gf) _ ⟨0,k.known,k.aZ,af.known,dU,af.aZ,e7,_,_,_,rfl,cw,(by rfl),S.z,bL,bF,c3,d11,d16,d17⟩ ?_
 clear S c3 bL bF
 rintro f27 a4 A_ ac w ⟨i,iH,c_,j6,kr,c9,fJ,u,N,β,rfl,hi,bc,S,dK,bb,c3,d24,d25,d26⟩
 refine S.rs fun S=>?_
 have afx:(gy inner page).length<=inner.length:=yN _ _
 refine S.aI 9 .nil (decide ((i:Int)<((gy inner page).length:Int))) (fun ac w β jf nW S=>?_) (fun ac w β jf nW S=>?_)
 ·refine S.go 5 .nil fun ac w β S=>?_
  refine dI ?_
  refine S.dR (f:=7) 6 (by kernel_rfl) (by kernel_rfl) fun w S=>?_
  refine S.hm 2 [0,1,2,3,4] [] [(20,.v (GT.val (⟨iH,c_⟩:bS) (⟨j6,c9⟩:fx))),(24,.v (aa (el (gy inner page) i)))] (.cons (b5 c3.ak i Tryz.underlying38) (.cons (cj c3.ak 3 i) .nil)) fun ac S=>?_
  refine ar.one (i:=5) (by kernel_rfl) ?_
  refine id (S.dB 25 (ZZ w (⟨iH,c_⟩:bS) (⟨j6,c9⟩:fx) (S.rd (show GT.rd b6 _ _ (⟨iH,c_⟩:bS) (⟨j6,c9⟩:fx) from⟨dK.ak,bb.ak⟩)) (el (gy inner page) i)) fun ac w N kS mR S up gz d34=>?_)
  refine ar.next S up (by kernel_rfl) ?_
  have d37:=J.w d34 c3.sub
  replace dK:=dK.up up
  replace bb:=bb.up up
  replace c3:=c3.up up
  clear up d34
  obtain⟨lb,mS,wF,jO,Gi,NI,d44⟩:=uu gz
  refine S.c_ 6 [] [] 2 [(0,[R (ke (⟨iH,c_⟩:bS) (el (gy inner page) i)).known.length kS.known.1,R (ke (⟨iH,c_⟩:bS) (el (gy inner page) i)).aZ.length kS.aZ.1])] .nil fun ac w β S=>?_
  refine ar.done (by kernel_rfl) ?_ _
  refine S.ex fun S=>?_
  refine S.ge 7 (.cons (cc (i:Int) 1) .nil) f27 fun ac w β S=>A_.of ((gy inner page).length-(i+1)) _ _ (by omega) ⟨i+1,(ke (⟨iH,c_⟩:bS) (el (gy inner page) i)).known,(ke (⟨iH,c_⟩:bS) (el (gy inner page) i)).aZ,kS.known,lb,kS.aZ,mS,_,_,_,rfl,?_,?_,S.z,wF,jO,c3,d44,(J.part (J.symm d37) Gi),(J.part (J.symm d37) NI)⟩
  ·exact cK
  ·clear S;(rw [tt (by omega),←bc])
 refine S.bo 13 .nil [GT.val (⟨iH,c_⟩:bS) (⟨j6,c9⟩:fx)] fun ac w β S=>?_
 have dO:=ma (x:=(⟨iH,c_⟩:bS)) (p:=(⟨j6,c9⟩:fx)) dK bb d24
 exact cy S (show nO k inner page=(⟨iH,c_⟩:bS) by clear S;(unfold nO;rw [Rq (by omega)] at bc;exact bc.symm)) rfl dO
theorem P7 (w0:World) (b:List aH) (bD:aD aH) (hb:bQ w0 b bD) (host:Int) (q3:a_ host):Calls Tryz.prog 323 [R b.length bD.1,aa host].toArray w0 (dw ab w0 (g6 b host:List aH)):=by
 refine Calls.run ab Tryz.func323 ?_
 intro ac β S
 have kG:b.length<=4194304:=ae.le hb
 have ae7:=q3.lo;have aeM:=q3.hi
 refine S.go 7 .nil fun ac w β S=>S.gE (α:=aH) (d:=7) fun ac w N af br S up aA d4=>?_
 clear up d4
 refine S.go 10 .nil fun ac w β S=>?_
 refine c8 (fun a4 ac w=>∃(k:Nat) (acc:List aH) (bM:_) (cT:_) (u:_) (N:_) (β:_),a4=b.length-k/\(k<=b.length)/\(acc=jE (b.take k) (fun e=>nR e host))/\aj Tryz.prog Tryz.f323.ntmps w0 ab u N β ⟨[(0,.v (R b.length bD.1)),(1,.v (aa host)),(5,.v (R acc.length bM.1)),(6,.v (aa (k:Int)))],[]⟩ ac w/\ad w0 ab u N cT acc bM) _ ⟨0,([]:List aH),af,br,_,_,_,rfl,cw,(by rfl),S.z,aA⟩ ?_
 clear S aA
 rintro f8 a4 e0 ac w ⟨k,acc,bM,cT,u,N,β,rfl,hk,bz,S,ao⟩
 refine S.rs fun S=>?_
 have gI:acc.length<=k:=by rw [bz];exact Nat.le_trans (w5 _ _) (List.length_take_le _ _)
 refine S.aI 9 .nil (decide ((k:Int)<(b.length:Int))) (fun ac w β c2 eb S=>?_) (fun ac w β c2 eb S=>?_)
 ·refine S.aI 16 (.cons (b5 (S.arg hb) k Tryz.underlying29) (.cons (cA (S.arg hb) 3 k 2 (aa (el b k).host)) .nil)) ((el b k).host != host) (fun ac w β ec hC S=>?_) (fun ac w β ec hC S=>?_)
  ·refine S.go 7 (.cons (b5 (S.arg hb) k Tryz.underlying29) (.cons (dz (S.arg hb) 138 k) .nil)) fun ac w β S=>S.h3 (α:=aH) (x:=(el b k)) (p:=()) (F:=ab) (ae.el (S.arg hb) k (by omega)) (fun b h=>False.elim h) (fun b h=>False.elim h) (d:=26) fun ac w N n6 pT S up gK d17=>?_
   replace ao:=ao.up up
   clear up d17
   refine S.kq (α:=aH) ao gK.ak (fun _ _ h=>h) (by':=32) (d:=27) (lx:=acc.length) (ly:=1) rfl rfl (show _<=4194304 by simp only [List.length_append,List.length_cons,List.length_nil];omega) fun ac w N dy h4 S up il d22=>?_
   clear up d22
   refine S.ge 9 (.cons (cc (k:Int) 1) .nil) f8 fun ac w β S=>e0.of (b.length-(k+1)) _ _ (by omega) ⟨k+1,(acc++[(el b k)]),dy,h4,_,_,_,rfl,?_,?_,S.z,il⟩
   ·exact cK
   ·clear S;(first|(rw [s0 (by omega) (UZ (by assumption)),bz];done)|(rw [pS (by omega) (UY (by assumption)),bz];done))
  refine S.ge 9 (.cons (cc (k:Int) 1) .nil) f8 fun ac w β S=>e0.of (b.length-(k+1)) _ _ (by omega) ⟨k+1,acc,bM,cT,_,_,_,rfl,?_,?_,S.z,ao⟩
  ·exact cK
  ·clear S;(first|(rw [s0 (by omega) (UZ (by assumption)),bz];done)|(rw [pS (by omega) (UY (by assumption)),bz];done))
 refine S.bo 13 .nil [R acc.length bM.1] fun ac w β S=>?_
 exact cy S (show g6 b host=acc by clear S;(rw [bz,ff (by omega)];rfl)) rfl ao
theorem T4 {p:Prop} (h:p:=by clear S;((have JS:k=(el h.I m.toNat).U.length:=(by omega));subst JS;subst_vars;unfold gP;simp only [dW (show m.toNat<h.I.length by omega),List.set_set];first|(rw [Ec (by assumption),Ec (by assumption)];done)|(rw [Eb (by assumption),Eb (by assumption)];done))):p:=h
theorem HR (w0:World) (h:ah) (ai:b_) (F:au) (aX:GT.own b6 F w0 h ai) (eT:∀b,F b->b<w0.heap.size) (m:Int) (page:Int) (s:aR) (hs:ed s) (fC:(0<=m/\m<h.I.length)/\(el h.I m.toNat).tables.length=(el h.I m.toNat).U.length/\(0<=page/\page<=7)/\(el h.I m.toNat).outer.length=8):Calls Tryz.prog 266 [GT.val h ai,aa m,aa page,GT.val s ()].toArray w0 (rQ F ai w0 (gP h m page s:ah)):=by
 refine Calls.run F Tryz.func266 ?_
 intro ac β S
 have eg:ad w0 F w0 (fc w0.heap.size) F h ai:=⟨aX,eT,fun b hb=> .inr hb⟩
 obtain⟨cd,fg,fa,dY,bK,bX,bO,bq,_,_,_,_,d13,d14,d15,d16,d17,d18⟩:=jR eg
 have i19:a_ (el (el h.I m.toNat).outer page.toNat).page:=(ed.page (d:=(el (el h.I m.toNat).outer page.toNat)) (ae.el (aU.outer (d:=(el h.I m.toNat)) (ae.el bX.ak m.toNat (by omega))) page.toNat (by omega)))
 refine S.go 36 (.cons (cq bX.ak m Tryz.underlying28) (.cons (dz bX.ak 74 m.toNat) (.cons (cq (aU.outer (d:=(el h.I m.toNat)) (ae.el bX.ak m.toNat (by omega))) page Tryz.underlying64) (.cons (cA (aU.outer (d:=(el h.I m.toNat)) (ae.el bX.ak m.toNat (by omega))) 3 page.toNat 0 (aa (el (el h.I m.toNat).outer page.toNat).page)) .nil)))) fun ac w β S=>?_
 refine c8 (fun a4 ac w=>∃(k:Nat) (X:List aO) (c4:_) (o0:_) (u:_) (N:_) (β:_),a4=(el h.I m.toNat).U.length-k/\(k<=(el h.I m.toNat).U.length)/\(X=h.I.set m.toNat {el h.I m.toNat with tables:=qd (el h.I m.toNat).tables (el h.I m.toNat).U page k})/\aj Tryz.prog Tryz.f266.ntmps w0 F u N β ⟨[(1,.v (aa m)),(2,.v (aa page)),(4,.p 0 0),(7,.p 1 0),(8,.p 2 0),(9,.p 3 0),(10,.v (aa (el (el h.I m.toNat).outer page.toNat).page)),(11,.v (aa (k:Int)))],[[R h.mem.length ai.mem.1,R X.length c4.1,R h.buf.length ai.buf.1,R h.ag.length ai.ag.1],GT.cells s (),cg ah,GT.cells (el X m.toNat) (c4.2 m.toNat)]⟩ ac w/\ad w0 F u N o0 X c4/\ad w0 F u N cd h.mem ai.mem/\ad w0 F u N fa h.buf ai.buf/\ad w0 F u N dY h.ag ai.ag/\df ai.I.2 c4.2/\J o0 cd/\J o0 fa/\J o0 dY) _ ⟨0,h.I,ai.I,fg,_,_,_,rfl,cw,(by exact zk.symm),S.z,bX,bK,bO,bq,(df.g3 _),(J.symm d13),d16,d17⟩ ?_
 clear S bq bK bX bO
 rintro f27 a4 A_ ac w ⟨k,X,c4,o0,u,N,β,rfl,hk,fT,S,fr,bK,bO,bq,qe,d23,d24,d25⟩
 refine S.rs fun S=>?_
 obtain⟨hl,he⟩:=zl fT (show m.toNat<h.I.length by omega) (Gw _ _ _ _)
 have XR:(el X m.toNat).tables.length<=4194304:=ae.le (aU.tables (d:=(el X m.toNat)) (ae.el fr.ak m.toNat (by omega)))
 refine S.aI 10 .nil (decide ((k:Int)<((el X m.toNat).tables.length:Int))) (fun ac w β lq ya S=>?_) (fun ac w β lq ya S=>?_)
 ·refine S.go 5 .nil fun ac w β S=>?_
  refine dI ?_
  refine S.dR (f:=18) 17 (by kernel_rfl) (by kernel_rfl) fun w S=>?_
  refine S.hm 3 [0,1,2,3,4,5,6,7,8,9,10,11,12,13,14] [] [(31,.v (R (el X m.toNat).tables.length (c4.2 m.toNat).tables.1)),(32,.v (aa (k:Int))),(37,.v (GT.val (el (el X m.toNat).tables k) ((c4.2 m.toNat).tables.2 k))),(43,.v (R (el (el X m.toNat).U k).live.length ((c4.2 m.toNat).U.2 k).live.1)),(44,.v (aa page))] (.cons (b5 (aU.tables (d:=(el X m.toNat)) (ae.el fr.ak m.toNat (by omega))) k Tryz.underlying72) (.cons (dz (aU.tables (d:=(el X m.toNat)) (ae.el fr.ak m.toNat (by omega))) 165 k) (.cons (b5 (aU.U (d:=(el X m.toNat)) (ae.el fr.ak m.toNat (by omega))) k Tryz.underlying71) (.cons (cA (aU.U (d:=(el X m.toNat)) (ae.el fr.ak m.toNat (by omega))) 64 k 4 (R (el (el X m.toNat).U k).live.length ((c4.2 m.toNat).U.2 k).live.1)) .nil)))) fun ac S=>?_
  refine ar.one (i:=15) (by kernel_rfl) ?_
  refine id (S.dB 45 (Z0 w (el (el X m.toNat).tables k) ((c4.2 m.toNat).tables.2 k) (S.rd (ae.el (aU.tables (d:=(el X m.toNat)) (ae.el fr.ak m.toNat (by omega))) k (by omega))) (el (el X m.toNat).U k).live ((c4.2 m.toNat).U.2 k).live (S.rd (az.live (d:=(el (el X m.toNat).U k)) (ae.el (aU.U (d:=(el X m.toNat)) (ae.el fr.ak m.toNat (by omega))) k (by omega)))) page) fun ac w N ga qJ S up im d35=>?_)
  refine ar.next S up (by kernel_rfl) ?_
  have d36:=J.w d35 fr.sub
  have d37:=J.w d35 bK.sub
  have d38:=J.w d35 bO.sub
  have d39:=J.w d35 bq.sub
  replace fr:=fr.up up
  replace bK:=bK.up up
  replace bO:=bO.up up
  replace bq:=bq.up up
  clear up d35
  refine S.a9 16 [16] [] [(46,.v (bh (c4.2 m.toNat).tables.1.b ((c4.2 m.toNat).tables.1.off+k*2)))] (.cons (b5 (aU.tables (d:=(el X m.toNat)) (ae.el fr.ak m.toNat (by omega))) k Tryz.underlying72) .nil) fun ac S=>?_
  refine ar.one (i:=17) (by kernel_rfl) ?_
  obtain⟨al8,qv,wX,XY⟩:=Ro fr (k:=m.toNat) (show m.toNat<X.length by omega)
  have apX:=ae.le qv.ak
  have LC:=qv.sub
  refine id (S.kU (α:=bS) qv (t:=165) (k:=k) (off:=(c4.2 m.toNat).tables.1.off+k*2) im (J.symm (J.symm (J.part d36 wX))) fun w N Db VI S up hr d49 ake Uv=>?_)
  refine ar.last (by kernel_rfl) ?_
  have d52:=d49 _ (J.symm (J.part d23 wX)) d37 bK.sub
  have d53:=d49 _ (J.symm (J.part d24 wX)) d38 bO.sub
  have d54:=d49 _ (J.symm (J.part d25 wX)) d39 bq.sub
  replace bK:=bK.bk (J.symm (J.part d23 wX)) up
  replace bO:=bO.bk (J.symm (J.part d24 wX)) up
  replace bq:=bq.bk (J.symm (J.part d25 wX)) up
  clear d49 qv
  obtain⟨MF,kM,Pe,tx⟩:=XY _ _ _ _ _ qJ up hr ake d36 (by show [R _ _]=[R _ _];rw [List.length_set]) (fun b h=>Uv b (LC b h))
  have IZ:=df.iP qe tx
  clear up hr Uv
  have Ua:(X.set m.toNat ({el X m.toNat with tables:=((el X m.toNat).tables.set k (nO (el (el X m.toNat).tables k) (el (el X m.toNat).U k).live page))})).length=X.length:=List.length_set
  obtain⟨uP,R_⟩:∃z,z=X.set m.toNat ({el X m.toNat with tables:=((el X m.toNat).tables.set k (nO (el (el X m.toNat).tables k) (el (el X m.toNat).U k).live page))}):=⟨_,rfl⟩
  rw [←R_] at kM Pe Ua
  obtain⟨ap5,anp⟩:=zl R_ (show m.toNat<X.length by omega) List.length_set
  replace S:=S.z (σ':=⟨[(1,.v (aa m)),(2,.v (aa page)),(4,.p 0 0),(7,.p 1 0),(8,.p 2 0),(9,.p 3 0),(10,.v (aa (el (el h.I m.toNat).outer page.toNat).page)),(11,.v (aa (k:Int))),(45,.v (GT.val (nO (el (el X m.toNat).tables k) (el (el X m.toNat).U k).live page) ga)),(46,.v (bh (c4.2 m.toNat).tables.1.b ((c4.2 m.toNat).tables.1.off+k*2)))],[[R h.mem.length ai.mem.1,R X.length c4.1,R h.buf.length ai.buf.1,R h.ag.length ai.ag.1],GT.cells s (),cg ah,GT.cells (el X m.toNat) (c4.2 m.toNat)]⟩)
  replace S:=S.cast (σ':=⟨[(1,.v (aa m)),(2,.v (aa page)),(4,.p 0 0),(7,.p 1 0),(8,.p 2 0),(9,.p 3 0),(10,.v (aa (el (el h.I m.toNat).outer page.toNat).page)),(11,.v (aa (k:Int))),(45,.v (GT.val (nO (el (el X m.toNat).tables k) (el (el X m.toNat).U k).live page) ga)),(46,.v (bh (c4.2 m.toNat).tables.1.b ((c4.2 m.toNat).tables.1.off+k*2)))],[[R h.mem.length ai.mem.1,R uP.length c4.1,R h.buf.length ai.buf.1,R h.ag.length ai.ag.1],GT.cells s (),cg ah,GT.cells (el X m.toNat) (c4.2 m.toNat)]⟩) (by rw [show uP.length=X.length by omega])
  replace S:=S.z (σ':=⟨[(1,.v (aa m)),(2,.v (aa page)),(4,.p 0 0),(7,.p 1 0),(8,.p 2 0),(9,.p 3 0),(10,.v (aa (el (el h.I m.toNat).outer page.toNat).page)),(11,.v (aa (k:Int))),(45,.v (GT.val (nO (el (el X m.toNat).tables k) (el (el X m.toNat).U k).live page) ga)),(46,.v (bh (c4.2 m.toNat).tables.1.b ((c4.2 m.toNat).tables.1.off+k*2)))],[[R h.mem.length ai.mem.1,R uP.length c4.1,R h.buf.length ai.buf.1,R h.ag.length ai.ag.1],GT.cells s (),cg ah,GT.cells (el X m.toNat) (c4.2 m.toNat)]⟩)
  have akV:GT.cells (el uP m.toNat) ((c4.1,MF).2 m.toNat)=GT.cells (el X m.toNat) (c4.2 m.toNat):=Pe m.toNat
  replace S:=S.cast (σ':=⟨[(1,.v (aa m)),(2,.v (aa page)),(4,.p 0 0),(7,.p 1 0),(8,.p 2 0),(9,.p 3 0),(10,.v (aa (el (el h.I m.toNat).outer page.toNat).page)),(11,.v (aa (k:Int))),(45,.v (GT.val (nO (el (el X m.toNat).tables k) (el (el X m.toNat).U k).live page) ga)),(46,.v (bh (c4.2 m.toNat).tables.1.b ((c4.2 m.toNat).tables.1.off+k*2)))],[[R h.mem.length ai.mem.1,R uP.length c4.1,R h.buf.length ai.buf.1,R h.ag.length ai.ag.1],GT.cells s (),cg ah,GT.cells (el uP m.toNat) ((c4.1,MF).2 m.toNat)]⟩) (by rw [akV])
  refine ar.done (by kernel_rfl) ?_ _
  refine S.ex fun S=>?_
  refine S.ge 7 (.cons (cc (k:Int) 1) .nil) f27 fun ac w β S=>A_.of ((el h.I m.toNat).U.length-(k+1)) _ _ (by omega) ⟨k+1,uP,(c4.1,MF),(Or o0 Db),_,_,_,rfl,?_,?_,S.z,kM,bK,bO,bq,IZ,(J.symm (J.symm (J.or d23 (J.symm d52)))),(J.symm (J.symm (J.or d24 (J.symm d53)))),(J.symm (J.symm (J.or d25 (J.symm d54))))⟩
  ·exact cK
  ·clear S;(subst_vars;rw [List.set_set];simp only [dW (show m.toNat<h.I.length by omega),qd,Wh _ _ _ (Nat.le_refl _)])
 refine S.aI 13 .nil ((el (el h.I m.toNat).outer page.toNat).page != (-1)) (fun ac w β sc vg S=>?_) (fun ac w β sc vg S=>?_)
 ·refine S.go 6 .nil fun ac w β S=>S.cJ (r:=g6 h.buf (el (el h.I m.toNat).outer page.toNat).page) (d:=52) (P7 w h.buf ai.buf (S.rd bO.ak) (el (el h.I m.toNat).outer page.toNat).page i19) fun ac w N oV Hk S up iY d71=>?_
  have d72:=J.w d71 fr.sub
  have d73:=J.w d71 bK.sub
  replace fr:=fr.up up
  replace bK:=bK.up up
  replace bO:=bO.up up
  replace bq:=bq.up up
  clear up d71
  refine S.go 8 .nil fun ac w β S=>S.cJ (r:=g6 h.ag (el (el h.I m.toNat).outer page.toNat).page) (d:=57) (P7 w h.ag ai.ag (S.rd bq.ak) (el (el h.I m.toNat).outer page.toNat).page i19) fun ac w N y9 W5 S up l9 d79=>?_
  have d80:=J.w d79 fr.sub
  have d81:=J.w d79 bK.sub
  have d83:=J.w d79 iY.sub
  replace fr:=fr.up up
  replace bK:=bK.up up
  replace bq:=bq.up up
  replace iY:=iY.up up
  clear up d79
  obtain⟨OB,sJ,zh,X_⟩:=Rn fr (k:=m.toNat) (show m.toNat<X.length by omega)
  have aqc:=ae.le sJ.ak
  have ahx:=sJ.sub
  have ant:ed (el (el X m.toNat).outer page.toNat):=(ae.el sJ.ak page.toNat (by omega))
  refine S.go 11 (.cons (cq (aU.outer (d:=(el X m.toNat)) (ae.el fr.ak m.toNat (by omega))) page Tryz.underlying64) .nil) fun ac w β S=>S.fQ (α:=aR) sJ (t:=111) (k:=page.toNat) (j:=0) (off:=(c4.2 m.toNat).outer.1.off+page.toNat*2) (v:=GT.val s ()) (y:=s) (q:=()) (fun _ _ _=>⟨ab,hs,fun _ h=>False.elim h⟩) fun w N od VP S up nn d94 akl UC=>?_
  have d97:=d94 _ (J.symm (J.part d23 zh)) (fun b _ h=>False.elim h) bK.sub
  have d98:=d94 _ (J.symm (J.part d72 zh)) (fun b _ h=>False.elim h) iY.sub
  have d99:=d94 _ (J.symm (J.part d80 zh)) (fun b _ h=>False.elim h) l9.sub
  replace bK:=bK.bk (J.symm (J.part d23 zh)) up
  replace iY:=iY.bk (J.symm (J.part d72 zh)) up
  replace l9:=l9.bk (J.symm (J.part d80 zh)) up
  clear d94 sJ
  obtain⟨B9,rh,Dw,acj⟩:=X_ _ _ _ _ _ ab up nn akl (fun b _ h=>False.elim h) (by show [R _ _]=[R _ _];rw [List.length_set]) (fun b h=>UC b (ahx b h))
  have ack:=df.iP qe acj
  clear up nn UC
  have af3:(X.set m.toNat ({el X m.toNat with outer:=((el X m.toNat).outer.set page.toNat s)})).length=X.length:=List.length_set
  obtain⟨oi,RW⟩:∃z,z=X.set m.toNat ({el X m.toNat with outer:=((el X m.toNat).outer.set page.toNat s)}):=⟨_,rfl⟩
  rw [←RW] at rh Dw af3
  obtain⟨apk,anb⟩:=CM RW (show m.toNat<X.length by omega) List.length_set
  replace S:=S.z (σ':=⟨[(1,.v (aa m)),(4,.p 0 0),(8,.p 2 0),(9,.p 3 0),(62,.v (GT.val s ())),(63,.v (bh (c4.2 m.toNat).outer.1.b ((c4.2 m.toNat).outer.1.off+page.toNat*2)))],[[R h.mem.length ai.mem.1,R X.length c4.1,R (g6 h.buf (el (el h.I m.toNat).outer page.toNat).page).length oV.1,R (g6 h.ag (el (el h.I m.toNat).outer page.toNat).page).length y9.1],GT.cells s (),cg ah,GT.cells (el X m.toNat) (c4.2 m.toNat)]⟩)
  replace S:=S.cast (σ':=⟨[(1,.v (aa m)),(4,.p 0 0),(8,.p 2 0),(9,.p 3 0),(62,.v (GT.val s ())),(63,.v (bh (c4.2 m.toNat).outer.1.b ((c4.2 m.toNat).outer.1.off+page.toNat*2)))],[[R h.mem.length ai.mem.1,R oi.length c4.1,R (g6 h.buf (el (el h.I m.toNat).outer page.toNat).page).length oV.1,R (g6 h.ag (el (el h.I m.toNat).outer page.toNat).page).length y9.1],GT.cells s (),cg ah,GT.cells (el X m.toNat) (c4.2 m.toNat)]⟩) (by rw [show oi.length=X.length by omega])
  refine S.is fun S=>?_
  replace S:=S.z (σ':=⟨[(1,.v (aa m)),(4,.p 0 0),(8,.p 2 0),(9,.p 3 0),(62,.v (GT.val s ())),(63,.v (bh (c4.2 m.toNat).outer.1.b ((c4.2 m.toNat).outer.1.off+page.toNat*2)))],[[R h.mem.length ai.mem.1,R oi.length c4.1,R (g6 h.buf (el (el h.I m.toNat).outer page.toNat).page).length oV.1,R (g6 h.ag (el (el h.I m.toNat).outer page.toNat).page).length y9.1],GT.cells s (),cg ah,GT.cells (el X m.toNat) (c4.2 m.toNat)]⟩)
  have akS:GT.cells (el oi m.toNat) ((c4.1,B9).2 m.toNat)=GT.cells (el X m.toNat) (c4.2 m.toNat):=Dw m.toNat
  replace S:=S.cast (σ':=⟨[(1,.v (aa m)),(4,.p 0 0),(8,.p 2 0),(9,.p 3 0),(62,.v (GT.val s ())),(63,.v (bh (c4.2 m.toNat).outer.1.b ((c4.2 m.toNat).outer.1.off+page.toNat*2)))],[[R h.mem.length ai.mem.1,R oi.length c4.1,R (g6 h.buf (el (el h.I m.toNat).outer page.toNat).page).length oV.1,R (g6 h.ag (el (el h.I m.toNat).outer page.toNat).page).length y9.1],GT.cells s (),cg ah,GT.cells (el oi m.toNat) ((c4.1,B9).2 m.toNat)]⟩) (by rw [akS])
  refine S.is fun S=>?_
  refine S.go 9 (.cons (cq rh.ak m Tryz.underlying28) .nil) fun ac w β S=>S.Hs rh (α:=aO) (t:=74) (v:=GT.val (el oi m.toNat) ((c4.1,B9).2 m.toNat)) (k:=m.toNat) (j:=0) (off:=c4.1.off+m.toNat*9) (y:=(el oi m.toNat)) (q:=((c4.1,B9).2 m.toNat)) (Fy:=ab) (by omega) (Nat.le_of_ble_eq_true (by kernel_rfl)) (fun G fv _=>⟨G,fv,fun _ h=> .inl h⟩) (fun b _ h=>False.elim h) (fun b h=>False.elim h) (fun b h=>False.elim h) fun w N C3 S up qt d114 VY Fm=>?_
  obtain⟨dv,qt,acp⟩:∃dv:Nat->ft,ad w0 F _ _ C3 (oi.set m.toNat (el oi m.toNat)) ((c4.1,dv):aD aO)/\df (c4.1,B9).2 dv:=⟨_,qt,df.st rfl⟩
  have IS:=df.iP ack acp
  have d119:=d114 _ (J.symm (J.or d23 (J.symm d97))) (fun b _ h=>False.elim h) bK.sub
  have d120:=d114 _ (J.symm (J.or d72 (J.symm d98))) (fun b _ h=>False.elim h) iY.sub
  have d121:=d114 _ (J.symm (J.or d80 (J.symm d99))) (fun b _ h=>False.elim h) l9.sub
  replace bK:=bK.bk (J.symm (J.or d23 (J.symm d97))) up
  replace iY:=iY.bk (J.symm (J.or d72 (J.symm d98))) up
  replace l9:=l9.bk (J.symm (J.or d80 (J.symm d99))) up
  clear up d114 rh Fm
  rw [zk] at qt
  refine S.bo 9 .nil [GT.val (⟨h.mem,oi,(g6 h.buf (el (el h.I m.toNat).outer page.toNat).page),(g6 h.ag (el (el h.I m.toNat).outer page.toNat).page)⟩:ah) (⟨ai.mem,(c4.1,dv),oV,y9⟩:b_)] fun ac w β S=>?_
  have LG:=fs (x:=(⟨h.mem,oi,(g6 h.buf (el (el h.I m.toNat).outer page.toNat).page),(g6 h.ag (el (el h.I m.toNat).outer page.toNat).page)⟩:ah)) (p:=(⟨ai.mem,(c4.1,dv),oV,y9⟩:b_)) bK qt iY l9 d119 d73 d81 (J.symm d120) (J.symm d121) d83
  exact wP S (show gP h m page s=(⟨h.mem,oi,(g6 h.buf (el (el h.I m.toNat).outer page.toNat).page),(g6 h.ag (el (el h.I m.toNat).outer page.toNat).page)⟩:ah) from T4) rfl LG IS
 obtain⟨alH,rj,uq,XC⟩:=Rn fr (k:=m.toNat) (show m.toNat<X.length by omega)
 have apq:=ae.le rj.ak
 have agX:=rj.sub
 have DW:ed (el (el X m.toNat).outer page.toNat):=(ae.el rj.ak page.toNat (by omega))
 refine S.go 10 (.cons (cq (aU.outer (d:=(el X m.toNat)) (ae.el fr.ak m.toNat (by omega))) page Tryz.underlying64) .nil) fun ac w β S=>S.fQ (α:=aR) rj (t:=111) (k:=page.toNat) (j:=0) (off:=(c4.2 m.toNat).outer.1.off+page.toNat*2) (v:=GT.val s ()) (y:=s) (q:=()) (fun _ _ _=>⟨ab,hs,fun _ h=>False.elim h⟩) fun w N C5 MJ S up mJ d133 Ny Um=>?_
 have d136:=d133 _ (J.symm (J.part d23 uq)) (fun b _ h=>False.elim h) bK.sub
 have d137:=d133 _ (J.symm (J.part d24 uq)) (fun b _ h=>False.elim h) bO.sub
 have d138:=d133 _ (J.symm (J.part d25 uq)) (fun b _ h=>False.elim h) bq.sub
 replace bK:=bK.bk (J.symm (J.part d23 uq)) up
 replace bO:=bO.bk (J.symm (J.part d24 uq)) up
 replace bq:=bq.bk (J.symm (J.part d25 uq)) up
 clear d133 rj
 obtain⟨B_,tU,O_,acz⟩:=XC _ _ _ _ _ ab up mJ Ny (fun b _ h=>False.elim h) (by show [R _ _]=[R _ _];rw [List.length_set]) (fun b h=>Um b (agX b h))
 have acA:=df.iP qe acz
 clear up mJ Um
 have af_:(X.set m.toNat ({el X m.toNat with outer:=((el X m.toNat).outer.set page.toNat s)})).length=X.length:=List.length_set
 obtain⟨oj,RZ⟩:∃z,z=X.set m.toNat ({el X m.toNat with outer:=((el X m.toNat).outer.set page.toNat s)}):=⟨_,rfl⟩
 rw [←RZ] at tU O_ af_
 obtain⟨apt,anc⟩:=CM RZ (show m.toNat<X.length by omega) List.length_set
 replace S:=S.z (σ':=⟨[(1,.v (aa m)),(4,.p 0 0),(8,.p 2 0),(9,.p 3 0),(62,.v (GT.val s ())),(63,.v (bh (c4.2 m.toNat).outer.1.b ((c4.2 m.toNat).outer.1.off+page.toNat*2)))],[[R h.mem.length ai.mem.1,R X.length c4.1,R h.buf.length ai.buf.1,R h.ag.length ai.ag.1],GT.cells s (),cg ah,GT.cells (el X m.toNat) (c4.2 m.toNat)]⟩)
 replace S:=S.cast (σ':=⟨[(1,.v (aa m)),(4,.p 0 0),(8,.p 2 0),(9,.p 3 0),(62,.v (GT.val s ())),(63,.v (bh (c4.2 m.toNat).outer.1.b ((c4.2 m.toNat).outer.1.off+page.toNat*2)))],[[R h.mem.length ai.mem.1,R oj.length c4.1,R h.buf.length ai.buf.1,R h.ag.length ai.ag.1],GT.cells s (),cg ah,GT.cells (el X m.toNat) (c4.2 m.toNat)]⟩) (by rw [show oj.length=X.length by omega])
 refine S.is fun S=>?_
 replace S:=S.z (σ':=⟨[(1,.v (aa m)),(4,.p 0 0),(8,.p 2 0),(9,.p 3 0),(62,.v (GT.val s ())),(63,.v (bh (c4.2 m.toNat).outer.1.b ((c4.2 m.toNat).outer.1.off+page.toNat*2)))],[[R h.mem.length ai.mem.1,R oj.length c4.1,R h.buf.length ai.buf.1,R h.ag.length ai.ag.1],GT.cells s (),cg ah,GT.cells (el X m.toNat) (c4.2 m.toNat)]⟩)
 have akT:GT.cells (el oj m.toNat) ((c4.1,B_).2 m.toNat)=GT.cells (el X m.toNat) (c4.2 m.toNat):=O_ m.toNat
 replace S:=S.cast (σ':=⟨[(1,.v (aa m)),(4,.p 0 0),(8,.p 2 0),(9,.p 3 0),(62,.v (GT.val s ())),(63,.v (bh (c4.2 m.toNat).outer.1.b ((c4.2 m.toNat).outer.1.off+page.toNat*2)))],[[R h.mem.length ai.mem.1,R oj.length c4.1,R h.buf.length ai.buf.1,R h.ag.length ai.ag.1],GT.cells s (),cg ah,GT.cells (el oj m.toNat) ((c4.1,B_).2 m.toNat)]⟩) (by rw [akT])
 refine S.is fun S=>?_
 refine S.go 9 (.cons (cq tU.ak m Tryz.underlying28) .nil) fun ac w β S=>S.Hs tU (α:=aO) (t:=74) (v:=GT.val (el oj m.toNat) ((c4.1,B_).2 m.toNat)) (k:=m.toNat) (j:=0) (off:=c4.1.off+m.toNat*9) (y:=(el oj m.toNat)) (q:=((c4.1,B_).2 m.toNat)) (Fy:=ab) (by omega) (Nat.le_of_ble_eq_true (by kernel_rfl)) (fun G fv _=>⟨G,fv,fun _ h=> .inl h⟩) (fun b _ h=>False.elim h) (fun b h=>False.elim h) (fun b h=>False.elim h) fun w N C8 S up Fv d153 aqI ag3=>?_
 obtain⟨Ce,Fv,acC⟩:∃Ce:Nat->ft,ad w0 F _ _ C8 (oj.set m.toNat (el oj m.toNat)) ((c4.1,Ce):aD aO)/\df (c4.1,B_).2 Ce:=⟨_,Fv,df.st rfl⟩
 have acD:=df.iP acA acC
 have d158:=d153 _ (J.symm (J.or d23 (J.symm d136))) (fun b _ h=>False.elim h) bK.sub
 have d159:=d153 _ (J.symm (J.or d24 (J.symm d137))) (fun b _ h=>False.elim h) bO.sub
 have d160:=d153 _ (J.symm (J.or d25 (J.symm d138))) (fun b _ h=>False.elim h) bq.sub
 replace bK:=bK.bk (J.symm (J.or d23 (J.symm d136))) up
 replace bO:=bO.bk (J.symm (J.or d24 (J.symm d137))) up
 replace bq:=bq.bk (J.symm (J.or d25 (J.symm d138))) up
 clear up d153 tU ag3
 rw [zk] at Fv
 refine S.bo 9 .nil [GT.val (⟨h.mem,oj,h.buf,h.ag⟩:ah) (⟨ai.mem,(c4.1,Ce),ai.buf,ai.ag⟩:b_)] fun ac w β S=>?_
 have LK:=fs (x:=(⟨h.mem,oj,h.buf,h.ag⟩:ah)) (p:=(⟨ai.mem,(c4.1,Ce),ai.buf,ai.ag⟩:b_)) bK Fv bO bq d158 d14 d15 (J.symm d159) (J.symm d160) d18
 exact wP S (show gP h m page s=(⟨h.mem,oj,h.buf,h.ag⟩:ah) from T4) rfl LK acD
theorem aaq (w0:World) (h:ah) (ai:b_) (F:au) (aX:GT.own b6 F w0 h ai) (eT:∀b,F b->b<w0.heap.size) (m:Int) (page:Int) (fC:(0<=m/\m<h.I.length)/\(el h.I m.toNat).tables.length=(el h.I m.toNat).U.length/\(0<=page/\page<=7)/\(el h.I m.toNat).outer.length=8/\(el h.I m.toNat).out.length=8):Calls Tryz.prog 264 [GT.val h ai,aa m,aa page].toArray w0 (rQ F ai w0 (iA h m page:ah)):=by
 refine Calls.run F Tryz.func264 ?_
 intro ac β S
 have eg:ad w0 F w0 (fc w0.heap.size) F h ai:=⟨aX,eT,fun b hb=> .inr hb⟩
 obtain⟨cd,fg,fa,dY,bK,bX,bO,bq,_,_,_,_,d13,d14,d15,d16,d17,d18⟩:=jR eg
 refine S.go 7 .nil fun ac w β S=>?_
 refine dI ?_
 refine S.dR (f:=22) 21 (by kernel_rfl) (by kernel_rfl) fun w S=>?_
 refine S.hm 3 [0,1,2,3,4,5,6,7,8,9,10,11,12,13,14,15,16,17,18] [] [(12,.v (R (el h.I m.toNat).out.length (ai.I.2 m.toNat).out.1)),(13,.v (aa page)),(15,.v (R h.mem.length ai.mem.1)),(25,.v (aa (el (el h.I m.toNat).outer page.toNat).page))] (.cons (cq bX.ak m Tryz.underlying28) (.cons (cA bX.ak 22 m.toNat 1 (R (el h.I m.toNat).out.length (ai.I.2 m.toNat).out.1)) (.cons (cq bX.ak m Tryz.underlying28) (.cons (cA bX.ak 64 m.toNat 0 (R (el h.I m.toNat).outer.length (ai.I.2 m.toNat).outer.1)) (.cons (cq (aU.outer (d:=(el h.I m.toNat)) (ae.el bX.ak m.toNat (by omega))) page Tryz.underlying64) (.cons (cA (aU.outer (d:=(el h.I m.toNat)) (ae.el bX.ak m.toNat (by omega))) 3 page.toNat 0 (aa (el (el h.I m.toNat).outer page.toNat).page)) .nil)))))) fun ac S=>?_
 refine ar.one (i:=19) (by kernel_rfl) ?_
 refine id (S.dB 26 (aaa w h.mem ai.mem (S.rd bK.ak) (el (el h.I m.toNat).outer page.toNat).page) fun ac w N c4 o0 S up fr d23=>?_)
 refine ar.next S up (by kernel_rfl) ?_
 have d24:=J.w d23 bK.sub
 have d25:=J.w d23 bX.sub
 have d26:=J.w d23 bO.sub
 have d27:=J.w d23 bq.sub
 replace bK:=bK.up up
 replace bX:=bX.up up
 replace bO:=bO.up up
 replace bq:=bq.up up
 clear up d23
 refine S.a9 20 [20] [] [(27,.v (bh (ai.I.2 m.toNat).out.1.b ((ai.I.2 m.toNat).out.1.off+page.toNat*1)))] (.cons (cq (aU.out (d:=(el h.I m.toNat)) (ae.el bX.ak m.toNat (by omega))) page Tryz.underlying22) .nil) fun ac S=>?_
 refine ar.one (i:=21) (by kernel_rfl) ?_
 obtain⟨ob,kL,wW,O0⟩:=Rm bX (k:=m.toNat) (show m.toNat<h.I.length by omega)
 have Le:=ae.le kL.ak
 have ahj:=kL.sub
 refine id (S.kU (α:=List Int) kL (t:=38) (k:=page.toNat) (off:=(ai.I.2 m.toNat).out.1.off+page.toNat*1) fr (J.symm (J.symm (J.part d25 wW))) fun w N mg Cg S up im d37 CF BF=>?_)
 refine ar.last (by kernel_rfl) ?_
 have d40:=d37 _ (J.symm (J.part (J.symm d13) wW)) d24 bK.sub
 have d41:=d37 _ (J.symm (J.part d16 wW)) d26 bO.sub
 have d42:=d37 _ (J.symm (J.part d17 wW)) d27 bq.sub
 replace bK:=bK.bk (J.symm (J.part (J.symm d13) wW)) up
 replace bO:=bO.bk (J.symm (J.part d16 wW)) up
 replace bq:=bq.bk (J.symm (J.part d17 wW)) up
 clear d37 kL
 obtain⟨ME,qw,Yr,IX⟩:=O0 _ _ _ _ _ o0 up im CF d25 (by show [R _ _]=[R _ _];rw [List.length_set]) (fun b h=>BF b (ahj b h))
 have acN:=df.iP (df.g3 _) IX
 clear up im BF
 have T_:(h.I.set m.toNat ({el h.I m.toNat with out:=((el h.I m.toNat).out.set page.toNat (hn h.mem (el (el h.I m.toNat).outer page.toNat).page))})).length=h.I.length:=List.length_set
 obtain⟨om,R9⟩:∃z,z=h.I.set m.toNat ({el h.I m.toNat with out:=((el h.I m.toNat).out.set page.toNat (hn h.mem (el (el h.I m.toNat).outer page.toNat).page))}):=⟨_,rfl⟩
 rw [←R9] at qw Yr T_
 obtain⟨ap2,ano⟩:=Gp R9 (show m.toNat<h.I.length by omega) List.length_set
 replace S:=S.z (σ':=⟨[(1,.v (aa m)),(2,.v (aa page)),(3,.p 0 0),(6,.p 1 0),(26,.v (R (hn h.mem (el (el h.I m.toNat).outer page.toNat).page).length c4.1)),(27,.v (bh (ai.I.2 m.toNat).out.1.b ((ai.I.2 m.toNat).out.1.off+page.toNat*1)))],[[R h.mem.length ai.mem.1,R h.I.length ai.I.1,R h.buf.length ai.buf.1,R h.ag.length ai.ag.1],cg ah]⟩)
 replace S:=S.cast (σ':=⟨[(1,.v (aa m)),(2,.v (aa page)),(3,.p 0 0),(6,.p 1 0),(26,.v (R (hn h.mem (el (el h.I m.toNat).outer page.toNat).page).length c4.1)),(27,.v (bh (ai.I.2 m.toNat).out.1.b ((ai.I.2 m.toNat).out.1.off+page.toNat*1)))],[[R h.mem.length ai.mem.1,R om.length ai.I.1,R h.buf.length ai.buf.1,R h.ag.length ai.ag.1],cg ah]⟩) (by rw [show om.length=h.I.length by omega])
 refine ar.done (by kernel_rfl) ?_ _
 refine S.ex fun S=>?_
 refine S.go 2 .nil fun ac w β S=>?_
 refine dI ?_
 refine S.dR (f:=6) 4 (by kernel_rfl) (by kernel_rfl) fun w S=>?_
 refine S.hm 3 [0,1,2] [] [(28,.v (GT.val (⟨h.mem,om,h.buf,h.ag⟩:ah) (⟨ai.mem,(ai.I.1,ME),ai.buf,ai.ag⟩:b_))),(29,.v (aa m)),(30,.v (aa page))] .nil fun ac S=>?_
 refine S.iN 3 [] [(31,.v (GT.val (⟨-1,0⟩:aR) ()))] 2 [] (.cons (aE fun w hw=>nK w) .nil) fun ac w β S=>?_
 refine ar.one (i:=4) (by kernel_rfl) ?_
 have rm:=fs (x:=(⟨h.mem,om,h.buf,h.ag⟩:ah)) (p:=(⟨ai.mem,(ai.I.1,ME),ai.buf,ai.ag⟩:b_)) bK qw bO bq (J.symm (J.or (J.symm d13) (J.symm d40))) d14 d15 (J.symm (J.symm (J.or d16 (J.symm d41)))) (J.symm (J.symm (J.or d17 (J.symm d42)))) d18
 refine id (S.Qm (d:=32) rm (rfl:(gP (⟨h.mem,om,h.buf,h.ag⟩:ah) m page (⟨-1,0⟩:aR))=_) (HR w (⟨h.mem,om,h.buf,h.ag⟩:ah) (⟨ai.mem,(ai.I.1,ME),ai.buf,ai.ag⟩:b_) (j8 [cd,(Or fg mg),fa,dY]) (S.fP rm) (fun b hb=>(S.sep b (rm.sub b hb)).1) m page (⟨-1,0⟩:aR) (show ed ⟨-1,0⟩ from⟨⟨by decide,by decide⟩,⟨by decide,by decide⟩⟩) (by(first|omega|(dsimp only;omega)))) fun ac w N gm qL S up kM d57 tx=>?_)
 refine ar.last (by kernel_rfl) ?_
 clear up d57 rm
 obtain⟨OA,kZ,s6,xk,rn,iX,ha,j4,_,_,_,_,d71,d72,d73,d74,d75,d76⟩:=jR kM
 have acQ:=df.iP acN tx
 refine S.c_ 5 [] [] 2 [(1,[R (gP (⟨h.mem,om,h.buf,h.ag⟩:ah) m page (⟨-1,0⟩:aR)).mem.length gm.mem.1,R (gP (⟨h.mem,om,h.buf,h.ag⟩:ah) m page (⟨-1,0⟩:aR)).I.length gm.I.1,R (gP (⟨h.mem,om,h.buf,h.ag⟩:ah) m page (⟨-1,0⟩:aR)).buf.length gm.buf.1,R (gP (⟨h.mem,om,h.buf,h.ag⟩:ah) m page (⟨-1,0⟩:aR)).ag.length gm.ag.1])] .nil fun ac w β S=>?_
 refine ar.done (by kernel_rfl) ?_ _
 refine S.ex fun S=>?_
 refine S.bo 2 .nil [GT.val (gP (⟨h.mem,om,h.buf,h.ag⟩:ah) m page (⟨-1,0⟩:aR)) gm] fun ac w β S=>?_
 have l9:=fs (x:=(gP (⟨h.mem,om,h.buf,h.ag⟩:ah) m page (⟨-1,0⟩:aR))) (p:=gm) rn iX ha j4 d71 d72 d73 d74 d75 d76
 exact wP S (show iA h m page=(gP (⟨h.mem,om,h.buf,h.ag⟩:ah) m page (⟨-1,0⟩:aR)) by clear S;(first|(subst_vars;rfl)|(subst_vars;simp [iA,kh,gP,m7,dW, *];done))) rfl l9 acQ
theorem K5 {p:Prop} (h:p:=by clear S;(unfold jv;(repeat' split)<;>first|rfl|(simp;done)|(exfalso;omega)|(exfalso;simp_all;done)|(exfalso;simp_all;omega))):p:=h
theorem aak (w0:World) (m:List (List Int)) (pm:aD (List Int)) (hm:bQ w0 m pm) (page:Int) (cells:List Int) (mb:aD Int) (my:bQ w0 cells mb):Calls Tryz.prog 321 [R m.length pm.1,aa page,R cells.length mb.1].toArray w0 (dw ab w0 (jv m page cells:List (List Int))):=by
 refine Calls.run ab Tryz.func321 ?_
 intro ac β S
 have q6:m.length<=4194304:=ae.le hm
 have JX:cells.length<=4194304:=ae.le my
 refine S.go 8 .nil fun ac w β S=>S.cJ (r:=m) (d:=9) (p4 w m pm (S.rd (S.arg hm))) fun ac w N af br S up aA d4=>?_
 clear up d4
 refine S.bd 12 (.cons (hf (m.length:Int) 1) (.cons (aE fun w hw=>fE w page 0 ((m.length:Int)-1)) .nil)) (a3 page 0 ((m.length:Int)-1)) (fun ac w β bm S=>?_) (fun ac w β bm S=>?_)
 ·have c6:=cV bm
  refine S.bd 5 (.cons (aE fun w hw=>HM w cells mb (bJ (S.arg my) hw)) .nil) (ho cells) (fun ac w β cE S=>?_) (fun ac w β cE S=>?_)
  ·refine S.go 4 .nil fun ac w β S=>S.gE (α:=Int) (d:=21) fun ac w N b0 bV S up nj d11=>?_
   have d12:=J.w d11 aA.sub
   replace aA:=aA.up up
   clear up d11
   have amE:cells.length<=4194304:=ae.le (S.arg my)
   refine S.go 1 .nil fun ac w β S=>S.lG (α:=Int) nj (S.arg my) (fun _ _ h=>h) (by':=8) (d:=23) (lx:=0) (ly:=cells.length) rfl fun ac w N j5 e6 S up ba d16=>?_
   have d18:=d16 _ d12 aA.sub
   replace aA:=aA.bk d12 up
   clear up d16
   refine S.go 1 (.cons (cq aA.ak page Tryz.underlying22) .nil) fun ac w β S=>S.eQ (α:=List Int) aA (t:=38) (k:=page.toNat) (off:=af.1.off+page.toNat*1) ba d18 fun w N h4 c9 S up eA d22 zd ahf=>?_
   clear up d22 aA ahf
   have Ld:(m.set page.toNat cells).length=m.length:=List.length_set
   refine S.bo 9 .nil [R m.length af.1] fun ac w β S=>?_
   exact cy S (show jv m page cells=(m.set page.toNat cells) from K5) (by rw [show m.length=(m.set page.toNat cells).length from(by rw [List.length_set])];rfl) eA
  refine S.bo 10 .nil [R m.length af.1] fun ac w β S=>?_
  exact cy S (show jv m page cells=m from K5) rfl aA
 have qe:=dn bm
 refine S.bo 15 .nil [R m.length af.1] fun ac w β S=>?_
 exact cy S (show jv m page cells=m from K5) rfl aA
theorem aao (w0:World) (h:ah) (ai:b_) (F:au) (aX:GT.own b6 F w0 h ai) (eT:∀b,F b->b<w0.heap.size) (m:Int) (page:Int) (fC:fN h m page=true):Calls Tryz.prog 265 [GT.val h ai,aa m,aa page].toArray w0 (rQ F ai w0 (lj h m page:ah)):=by
 refine Calls.run F Tryz.func265 ?_
 intro ac β S
 have eg:ad w0 F w0 (fc w0.heap.size) F h ai:=⟨aX,eT,fun b hb=> .inr hb⟩
 obtain⟨cd,fg,fa,dY,bK,bX,bO,bq,_,_,_,_,d13,d14,d15,d16,d17,d18⟩:=jR eg
 have bC:=px (h:=h) (m:=m) (page:=page) (by assumption)
 refine S.go 10 .nil fun ac w β S=>S.cJ (r:=en h) (d:=11) (P9 w h ai (S.rd (show GT.rd b6 _ _ h ai from⟨bK.ak,bX.ak,bO.ak,bq.ak⟩))) fun ac w N dy h4 S up il d22=>?_
 replace bK:=bK.up up
 replace bX:=bX.up up
 replace bO:=bO.up up
 replace bq:=bq.up up
 clear up d22
 refine S.go 4 .nil fun ac w β S=>?_
 refine iw S (fun ac w=>∃(bs:ah) (e9:b_) (ob:au) (u:_) (N:_) (β:_),(bs=kg h)/\aj Tryz.prog Tryz.f265.ntmps w0 F u N β ⟨[(1,.v (aa m)),(2,.v (aa page)),(3,.p 0 0),(6,.p 1 0)],[GT.cells bs e9,cg ah]⟩ ac w/\ad w0 F u N ob bs e9/\df ai.I.2 (b_.I e9).2) ?_ ?_
 ·clear S;intro S
  refine S.aI 0 .nil (((en h).length:Int)==0) (fun ac w β ps Ar S=>?_) (fun ac w β ps Ar S=>?_)
  ·have im:=fs (x:=h) (p:=ai) bK bX bO bq d13 d14 d15 d16 d17 d18
   obtain⟨av,hq⟩:∃z,z=(iA h (ea h 0).1 (ea h 0).2):=⟨_,rfl⟩
   have agp:=V1 (h:=h) hq (sg (by assumption)) (by omega) m.toNat
   try dsimp only at agp
   refine S.go 16 (.cons (aE fun w hw=>Qc w h ai (bJ (show GT.rd b6 _ _ h ai from⟨bK.ak,bX.ak,bO.ak,bq.ak⟩) hw) 0) .nil) fun ac w β S=>S.zE (d:=22) im hq (aaq w h ai (j8 [cd,fg,fa,dY]) (S.fP im) (fun b hb=>(S.sep b (im.sub b hb)).1) (ea h 0).1 (ea h 0).2 (by(first|omega|(dsimp only;omega)|((have wg:=NO (sg (by assumption)) (show ¬0<(en h).length by omega));omega)))) fun ac w N uh C9 S up iJ d38 Ed=>?_
   clear up d38 im
   obtain⟨mS,kY,Db,qK,jO,dO,tX,g_,_,_,_,_,d53,d54,d55,d56,d57,d58⟩:=jR iJ
   have IZ:=df.iP (df.g3 _) Ed
   have rn:=fs (x:=av) (p:=uh) jO dO tX g_ d53 d54 d55 d56 d57 d58
   exact S.dG 2 .nil fun ac w β S=>⟨rfl,av,uh,(j8 [mS,kY,Db,qK]),_,_,_,(by clear S;first|exact Gf (by assumption) (by omega)|exact Ge (by omega)),S.z,rn,IZ⟩
  have eF:=fs (x:=h) (p:=ai) bK bX bO bq d13 d14 d15 d16 d17 d18
  exact S.dG 2 .nil fun ac w β S=>⟨rfl,h,ai,(j8 [cd,fg,fa,dY]),_,_,_,(by clear S;first|exact Gf (by assumption) (by omega)|exact Ge (by omega)),S.z,eF,(df.g3 _)⟩
 clear S bK bX bO bq il
 rintro ac w ⟨bs,e9,ob,u,N,β,kE,S,kL,ya⟩
 have bp:=VV kE (by assumption)
 obtain⟨kZ,s6,xk,Hl,iX,ha,j4,oO,_,_,_,_,_,_,_,d77,d78,d79⟩:=jR kL
 refine S.ex fun S=>?_
 refine S.go 4 .nil fun ac w β S=>S.cJ (r:=en bs) (d:=24) (P9 w bs e9 (S.rd (show GT.rd b6 _ _ bs e9 from⟨iX.ak,ha.ak,j4.ak,oO.ak⟩))) fun ac w N uk Dg S up qy d83=>?_
 replace iX:=iX.up up
 replace ha:=ha.up up
 replace j4:=j4.up up
 replace oO:=oO.up up
 clear up d83
 have i88:a_ (el (en bs) 0):=(ae.el qy.ak 0 (by omega))
 refine S.go 6 (.cons (b5 qy.ak 0 Tryz.underlying38) (.cons (cj qy.ak 3 0) .nil)) fun ac w β S=>?_
 refine dI ?_
 refine S.dR (f:=15) 14 (by kernel_rfl) (by kernel_rfl) fun w S=>?_
 refine S.hm 3 [0,1,2,3,4,5,6,7,8,9,10,11] [] [(28,.v (R bs.mem.length e9.mem.1)),(29,.v (aa (el (en bs) 0))),(38,.v (R (el (el bs.I m.toNat).out page.toNat).length ((e9.I.2 m.toNat).out.2 page.toNat).1))] (.cons (cq ha.ak m Tryz.underlying28) (.cons (cA ha.ak 22 m.toNat 1 (R (el bs.I m.toNat).out.length (e9.I.2 m.toNat).out.1)) (.cons (cq (aU.out (d:=(el bs.I m.toNat)) (ae.el ha.ak m.toNat (by omega))) page Tryz.underlying22) (.cons (cj (aU.out (d:=(el bs.I m.toNat)) (ae.el ha.ak m.toNat (by omega))) 38 page.toNat) .nil)))) fun ac S=>?_
 refine ar.one (i:=12) (by kernel_rfl) ?_
 refine id (S.dB 39 (aak w bs.mem e9.mem (S.rd iX.ak) (el (en bs) 0) (el (el bs.I m.toNat).out page.toNat) ((e9.I.2 m.toNat).out.2 page.toNat) (S.rd (ae.el (aU.out (d:=(el bs.I m.toNat)) (ae.el ha.ak m.toNat (by omega))) page.toNat (by omega)))) fun ac w N Co W6 S up nn d92=>?_)
 refine ar.next S up (by kernel_rfl) ?_
 have d94:=J.w d92 ha.sub
 have d95:=J.w d92 j4.sub
 have d96:=J.w d92 oO.sub
 replace ha:=ha.up up
 replace j4:=j4.up up
 replace oO:=oO.up up
 clear up d92
 refine S.a9 13 [13] [] [(40,.p 0 0)] .nil fun ac S=>?_
 refine S.c_ 14 [] [] 2 [(0,[R (jv bs.mem (el (en bs) 0) (el (el bs.I m.toNat).out page.toNat)).length Co.1,R bs.I.length e9.I.1,R bs.buf.length e9.buf.1,R bs.ag.length e9.ag.1])] .nil fun ac w β S=>?_
 refine ar.done (by kernel_rfl) ?_ _
 refine S.ex fun S=>?_
 refine S.go 10 (.cons (cq ha.ak m Tryz.underlying28) (.cons (cA ha.ak 22 m.toNat 1 (R (el bs.I m.toNat).out.length (e9.I.2 m.toNat).out.1)) .nil)) fun ac w β S=>S.gE (α:=Int) (d:=48) fun ac w N gV gg S up mK d100=>?_
 have d101:=J.w d100 ha.sub
 have d102:=J.w d100 j4.sub
 have d103:=J.w d100 oO.sub
 have d104:=J.w d100 nn.sub
 replace ha:=ha.up up
 replace j4:=j4.up up
 replace oO:=oO.up up
 replace nn:=nn.up up
 clear up d100
 obtain⟨alE,ri,wR,Xy⟩:=Rm ha (k:=m.toNat) (show m.toNat<bs.I.length by omega)
 have apl:=ae.le ri.ak
 have agU:=ri.sub
 refine S.go 1 (.cons (cq (aU.out (d:=(el bs.I m.toNat)) (ae.el ha.ak m.toNat (by omega))) page Tryz.underlying22) .nil) fun ac w β S=>S.eQ (α:=List Int) ri (t:=38) (k:=page.toNat) (off:=(e9.I.2 m.toNat).out.1.off+page.toNat*1) mK (J.symm (J.symm (J.part d101 wR))) fun w N C3 dv S up qt d114 VY Fm=>?_
 have d117:=d114 _ (J.symm (J.part d77 wR)) d102 j4.sub
 have d118:=d114 _ (J.symm (J.part d78 wR)) d103 oO.sub
 have d119:=d114 _ (J.symm (J.part d94 wR)) d104 nn.sub
 replace j4:=j4.bk (J.symm (J.part d77 wR)) up
 replace oO:=oO.bk (J.symm (J.part d78 wR)) up
 replace nn:=nn.bk (J.symm (J.part d94 wR)) up
 clear d114 ri
 obtain⟨FY,sB,Yi,Rv⟩:=Xy _ _ _ _ _ gg up qt VY d101 (by show [R _ _]=[R _ _];rw [List.length_set]) (fun b h=>Fm b (agU b h))
 have acr:=df.iP ya Rv
 clear up qt Fm
 have af7:(bs.I.set m.toNat ({el bs.I m.toNat with out:=((el bs.I m.toNat).out.set page.toNat ([]:List Int))})).length=bs.I.length:=List.length_set
 obtain⟨zL,RX⟩:∃z,z=bs.I.set m.toNat ({el bs.I m.toNat with out:=((el bs.I m.toNat).out.set page.toNat ([]:List Int))}):=⟨_,rfl⟩
 rw [←RX] at sB Yi af7
 obtain⟨af8,DW⟩:=Gp RX (show m.toNat<bs.I.length by omega) List.length_set
 replace S:=S.z (σ':=⟨[(1,.v (aa m)),(2,.v (aa page)),(3,.p 0 0),(6,.p 1 0),(9,.v (aa (el (en bs) 0))),(48,.v (R 0 gV.1)),(49,.v (bh (e9.I.2 m.toNat).out.1.b ((e9.I.2 m.toNat).out.1.off+page.toNat*1)))],[[R (jv bs.mem (el (en bs) 0) (el (el bs.I m.toNat).out page.toNat)).length Co.1,R bs.I.length e9.I.1,R bs.buf.length e9.buf.1,R bs.ag.length e9.ag.1],cg ah]⟩)
 replace S:=S.cast (σ':=⟨[(1,.v (aa m)),(2,.v (aa page)),(3,.p 0 0),(6,.p 1 0),(9,.v (aa (el (en bs) 0))),(48,.v (R 0 gV.1)),(49,.v (bh (e9.I.2 m.toNat).out.1.b ((e9.I.2 m.toNat).out.1.off+page.toNat*1)))],[[R (jv bs.mem (el (en bs) 0) (el (el bs.I m.toNat).out page.toNat)).length Co.1,R zL.length e9.I.1,R bs.buf.length e9.buf.1,R bs.ag.length e9.ag.1],cg ah]⟩) (by rw [show zL.length=bs.I.length by omega])
 have mJ:=fs (x:=(⟨(jv bs.mem (el (en bs) 0) (el (el bs.I m.toNat).out page.toNat)),zL,bs.buf,bs.ag⟩:ah)) (p:=(⟨Co,(e9.I.1,FY),e9.buf,e9.ag⟩:b_)) nn sB j4 oO (J.symm (J.or d94 (J.symm d119))) (J.symm d95) (J.symm d96) (J.symm (J.symm (J.or d77 (J.symm d117)))) (J.symm (J.symm (J.or d78 (J.symm d118)))) d79
 obtain⟨av,hq⟩:∃z,z=(gP (⟨(jv bs.mem (el (en bs) 0) (el (el bs.I m.toNat).out page.toNat)),zL,bs.buf,bs.ag⟩:ah) m page (⟨(el (en bs) 0),3⟩:aR)):=⟨_,rfl⟩
 refine S.is fun S=>?_
 refine S.go 9 (.cons (fY (s:=Instr.build 111 [(0,aa (el (en bs) 0)),(1,aa 3)].toArray) (v:= .agg [aa (el (en bs) 0),aa 3].toArray) (fun w=>by kernel_rfl)) .nil) fun ac w β S=>S.zE (d:=55) mJ hq (HR w (⟨(jv bs.mem (el (en bs) 0) (el (el bs.I m.toNat).out page.toNat)),zL,bs.buf,bs.ag⟩:ah) (⟨Co,(e9.I.1,FY),e9.buf,e9.ag⟩:b_) (j8 [W6,(Or s6 C3),xk,Hl]) (S.fP mJ) (fun b hb=>(S.sep b (mJ.sub b hb)).1) m page (⟨(el (en bs) 0),3⟩:aR) (show ed (⟨(el (en bs) 0),3⟩:aR) from⟨i88,(show a_ 3 from⟨by decide,by decide⟩)⟩) (by(first|omega|(dsimp only;omega)))) fun ac w N VA Oh S up BO d134 acu=>?_
 clear up d134 mJ
 obtain⟨alJ,Oj,GJ,Ok,ahE,tU,BP,BQ,_,_,_,_,d148,d149,d150,d151,d152,d153⟩:=jR BO
 have acB:=df.iP acr acu
 refine S.bo 4 .nil [GT.val av VA] fun ac w β S=>?_
 have jg:=fs (x:=av) (p:=VA) ahE tU BP BQ d148 d149 d150 d151 d152 d153
 exact wP S (show lj h m page=av by clear S;subst hq;(unfold lj;first|(subst_vars;rfl)|(subst_vars;simp [pj,kh,gP,m7,dW, *];done))) rfl jg acB
theorem T5 {p:Prop} (h:p:=by clear S;(first|(rw [Lr (by assumption) kE.symm (D1 (by omega) (by assumption))];done)|(rw [Lt (by assumption) kE.symm (xW (by omega) (by assumption)) (by assumption) (xW (Fj (by assumption) kE.symm (by assumption)) (by assumption))];done)|(rw [Ls (by assumption) kE.symm (xW (by omega) (by assumption)) (by assumption) (D1 (Fj (by assumption) kE.symm (by assumption)) (by assumption))];done))):p:=h
theorem aap (w0:World) (h:ah) (ai:b_) (F:au) (aX:GT.own b6 F w0 h ai) (eT:∀b,F b->b<w0.heap.size) (m:Int) (page:Int) (need:Int) (fC:fN h m page=true) (gU:1<=need) (aqs:need<=3):Calls Tryz.prog 181 [GT.val h ai,aa m,aa page,aa need].toArray w0 (rQ F ai w0 (gp h m page need:ah)):=by
 refine Calls.run F Tryz.func181 ?_
 intro ac β S
 have eg:ad w0 F w0 (fc w0.heap.size) F h ai:=⟨aX,eT,fun b hb=> .inr hb⟩
 obtain⟨cd,fg,fa,dY,bK,bX,bO,bq,_,_,_,_,d13,d14,d15,d16,d17,d18⟩:=jR eg
 have bC:=px (h:=h) (m:=m) (page:=page) (by assumption)
 refine S.go 10 (.cons (cq bX.ak m Tryz.underlying28) (.cons (cA bX.ak 64 m.toNat 0 (R (el h.I m.toNat).outer.length (ai.I.2 m.toNat).outer.1)) (.cons (cq (aU.outer (d:=(el h.I m.toNat)) (ae.el bX.ak m.toNat (by omega))) page Tryz.underlying64) (.cons (dz (aU.outer (d:=(el h.I m.toNat)) (ae.el bX.ak m.toNat (by omega))) 111 page.toNat) (.cons (aE fun w hw=>nK w) (.cons (qG (t:=111) (el (el h.I m.toNat).outer page.toNat) (⟨-1,0⟩:aR) (by kernel_rfl)) .nil)))))) fun ac w β S=>?_
 refine iw S (fun ac w=>∃(bs:ah) (dy:b_) (h4:au) (u:_) (N:_) (β:_),(bs=hB h m page)/\aj Tryz.prog Tryz.f181.ntmps w0 F u N β ⟨[(1,.v (aa m)),(2,.v (aa page)),(3,.v (aa need)),(4,.p 0 0),(8,.p 1 0)],[GT.cells bs dy,cg ah]⟩ ac w/\ad w0 F u N h4 bs dy/\df ai.I.2 (b_.I dy).2) ?_ ?_
 ·clear S;intro S
  refine S.bd 0 .nil (decide ((el (el h.I m.toNat).outer page.toNat)=(⟨-1,0⟩:aR))) (fun ac w β gR S=>?_) (fun ac w β gR S=>?_)
  ·have dm:=fs (x:=h) (p:=ai) bK bX bO bq d13 d14 d15 d16 d17 d18
   obtain⟨av,hq⟩:∃z,z=(lj h m page):=⟨_,rfl⟩
   have T8:=IL hq (by assumption)
   try dsimp only at T8
   refine S.go 5 .nil fun ac w β S=>S.zE (d:=24) dm hq (aao w h ai (j8 [cd,fg,fa,dY]) (S.fP dm) (fun b hb=>(S.sep b (dm.sub b hb)).1) m page (by(first|assumption|exact sg (by assumption)|omega|(dsimp only;omega)))) fun ac w N ML xf S up g9 d29 ya=>?_
   clear up d29 dm
   obtain⟨mR,mg,lb,mS,gz,e3,wF,jO,_,_,_,_,d44,d45,d46,d47,d48,d49⟩:=jR g9
   have Ef:=df.iP (df.g3 _) ya
   have g_:=fs (x:=av) (p:=ML) gz e3 wF jO d44 d45 d46 d47 d48 d49
   exact S.dG 2 .nil fun ac w β S=>⟨rfl,av,ML,(j8 [mR,mg,lb,mS]),_,_,_,(by clear S;first|exact(Fi (by assumption) (by assumption)).symm|exact(Fg (by assumption)).symm|exact tP (by assumption) (of_decide_eq_true (by assumption))|exact(tO (by assumption) (of_decide_eq_false (by assumption))).symm|exact tP (by assumption) (by assumption)|exact(tO (by assumption) (by assumption)).symm),S.z,g_,Ef⟩
  have rl:=fs (x:=h) (p:=ai) bK bX bO bq d13 d14 d15 d16 d17 d18
  exact S.dG 2 .nil fun ac w β S=>⟨rfl,h,ai,(j8 [cd,fg,fa,dY]),_,_,_,(by clear S;first|exact(Fi (by assumption) (by assumption)).symm|exact(Fg (by assumption)).symm|exact tP (by assumption) (of_decide_eq_true (by assumption))|exact(tO (by assumption) (of_decide_eq_false (by assumption))).symm|exact tP (by assumption) (by assumption)|exact(tO (by assumption) (by assumption)).symm),S.z,rl,(df.g3 _)⟩
 clear S bK bX bO bq
 rintro ac w ⟨bs,dy,h4,u,N,β,kE,S,il,tv⟩
 have bp:=BD kE (by assumption)
 obtain⟨Hh,kb,OA,kZ,qx,nk,rn,iX,_,_,_,_,d65,d66,d67,d68,d69,d70⟩:=jR il
 refine S.ex fun S=>?_
 refine S.aI 9 (.cons (qO (x:=need) (y:=2)) .nil) ((jK need 2)==0) (fun ac w β AF Au S=>?_) (fun ac w β AF Au S=>?_)
 ·refine S.bo 8 .nil [GT.val bs dy] fun ac w β S=>?_
  have hJ:=fs (x:=bs) (p:=dy) qx nk rn iX d65 d66 d67 d68 d69 d70
  exact wP S (show gp h m page need=bs from T5) rfl hJ tv
 obtain⟨Df,n2,zg,X8⟩:=Rl nk (k:=m.toNat) (show m.toNat<bs.I.length by omega)
 have agx:=ae.le n2.ak
 have ahw:=n2.sub
 refine S.go 13 (.cons (cq nk.ak m Tryz.underlying28) (.cons (cA nk.ak 39 m.toNat 2 (R (el bs.I m.toNat).aT.length (dy.I.2 m.toNat).aT.1)) (.cons (cq (aU.aT (d:=(el bs.I m.toNat)) (ae.el nk.ak m.toNat (by omega))) page Tryz.underlying39) .nil))) fun ac w β S=>S.fQ (α:=Bool) n2 (t:=4) (k:=page.toNat) (j:=0) (off:=(dy.I.2 m.toNat).aT.1.off+page.toNat*1) (v:=B true) (y:=true) (q:=()) (fun _ _ _=>⟨ab,trivial,fun _ h=>False.elim h⟩) fun w N Dg pM S up rq d83 NN UB=>?_
 have d86:=d83 _ (J.symm (J.part (J.symm d65) zg)) (fun b _ h=>False.elim h) qx.sub
 have d87:=d83 _ (J.symm (J.part d68 zg)) (fun b _ h=>False.elim h) rn.sub
 have d88:=d83 _ (J.symm (J.part d69 zg)) (fun b _ h=>False.elim h) iX.sub
 replace qx:=qx.bk (J.symm (J.part (J.symm d65) zg)) up
 replace rn:=rn.bk (J.symm (J.part d68 zg)) up
 replace iX:=iX.bk (J.symm (J.part d69 zg)) up
 clear d83 n2
 obtain⟨Cc,fM,Yu,acT⟩:=X8 _ _ _ _ _ ab up rq NN (fun b _ h=>False.elim h) (by show [R _ _]=[R _ _];rw [List.length_set]) (fun b h=>UB b (ahw b h))
 have Ei:=df.iP tv acT
 clear up rq UB
 have agy:(bs.I.set m.toNat ({el bs.I m.toNat with aT:=((el bs.I m.toNat).aT.set page.toNat true)})).length=bs.I.length:=List.length_set
 obtain⟨ky,Sd⟩:∃z,z=bs.I.set m.toNat ({el bs.I m.toNat with aT:=((el bs.I m.toNat).aT.set page.toNat true)}):=⟨_,rfl⟩
 rw [←Sd] at fM Yu agy
 obtain⟨aqe,anu⟩:=Gm Sd (show m.toNat<bs.I.length by omega) List.length_set
 replace S:=S.z (σ':=⟨[(1,.v (aa m)),(2,.v (aa page)),(4,.p 0 0),(8,.p 1 0),(36,.v (bh (dy.I.2 m.toNat).aT.1.b ((dy.I.2 m.toNat).aT.1.off+page.toNat*1)))],[[R bs.mem.length dy.mem.1,R bs.I.length dy.I.1,R bs.buf.length dy.buf.1,R bs.ag.length dy.ag.1],cg ah]⟩)
 replace S:=S.cast (σ':=⟨[(1,.v (aa m)),(2,.v (aa page)),(4,.p 0 0),(8,.p 1 0),(36,.v (bh (dy.I.2 m.toNat).aT.1.b ((dy.I.2 m.toNat).aT.1.off+page.toNat*1)))],[[R bs.mem.length dy.mem.1,R ky.length dy.I.1,R bs.buf.length dy.buf.1,R bs.ag.length dy.ag.1],cg ah]⟩) (by rw [show ky.length=bs.I.length by omega])
 refine S.is fun S=>?_
 refine S.aI 26 (.cons (cq fM.ak m Tryz.underlying28) (.cons (cA fM.ak 64 m.toNat 0 (R (el ky m.toNat).outer.length ((dy.I.1,Cc).2 m.toNat).outer.1)) (.cons (cq (aU.outer (d:=(el ky m.toNat)) (ae.el fM.ak m.toNat (by omega))) page Tryz.underlying64) (.cons (dz (aU.outer (d:=(el ky m.toNat)) (ae.el fM.ak m.toNat (by omega))) 111 page.toNat) (.cons (qO (x:=(el (el ky m.toNat).outer page.toNat).bg) (y:=2)) .nil))))) ((jK (el (el ky m.toNat).outer page.toNat).bg 2)==0) (fun ac w β adG aci S=>?_) (fun ac w β adG aci S=>?_)
 ·have rh:=fs (x:=(⟨bs.mem,ky,bs.buf,bs.ag⟩:ah)) (p:=(⟨dy.mem,(dy.I.1,Cc),dy.buf,dy.ag⟩:b_)) qx fM rn iX (J.symm (J.or (J.symm d65) (J.symm d86))) d66 d67 (J.symm (J.symm (J.or d68 (J.symm d87)))) (J.symm (J.symm (J.or d69 (J.symm d88)))) d70
  obtain⟨av,hq⟩:∃z,z=(gP (⟨bs.mem,ky,bs.buf,bs.ag⟩:ah) m page (⟨(el (el ky m.toNat).outer page.toNat).page,3⟩:aR)):=⟨_,rfl⟩
  refine S.go 8 (.cons (fY (s:=Instr.build 111 [(0,aa (el (el ky m.toNat).outer page.toNat).page),(1,aa 3)].toArray) (v:= .agg [aa (el (el ky m.toNat).outer page.toNat).page,aa 3].toArray) (fun w=>by kernel_rfl)) .nil) fun ac w β S=>S.zE (d:=56) rh hq (HR w (⟨bs.mem,ky,bs.buf,bs.ag⟩:ah) (⟨dy.mem,(dy.I.1,Cc),dy.buf,dy.ag⟩:b_) (j8 [Hh,(Or kb Dg),OA,kZ]) (S.fP rh) (fun b hb=>(S.sep b (rh.sub b hb)).1) m page (⟨(el (el ky m.toNat).outer page.toNat).page,3⟩:aR) (show ed (⟨(el (el ky m.toNat).outer page.toNat).page,3⟩:aR) from⟨(ed.page (d:=(el (el ky m.toNat).outer page.toNat)) (ae.el (aU.outer (d:=(el ky m.toNat)) (ae.el fM.ak m.toNat (by omega))) page.toNat (by omega))),(show a_ 3 from⟨by decide,by decide⟩)⟩) (by(first|omega|(dsimp only;omega)))) fun ac w N Vw alD S up LF d105 IQ=>?_
  clear up d105 rh
  obtain⟨iu,WE,Od,Oe,BM,qt,tS,BN,_,_,_,_,d119,d120,d121,d122,d123,d124⟩:=jR LF
  have acs:=df.iP Ei IQ
  refine S.bo 10 .nil [GT.val av Vw] fun ac w β S=>?_
  have sC:=fs (x:=av) (p:=Vw) BM qt tS BN d119 d120 d121 d122 d123 d124
  exact wP S (show gp h m page need=av by clear S;subst hq;(first|(rw [Lr (by assumption) kE.symm (D1 (by omega) (by assumption))];done)|(rw [Lt (by assumption) kE.symm (xW (by omega) (by assumption)) (by assumption) (xW (Fj (by assumption) kE.symm (by assumption)) (by assumption))];done)|(rw [Ls (by assumption) kE.symm (xW (by omega) (by assumption)) (by assumption) (D1 (Fj (by assumption) kE.symm (by assumption)) (by assumption))];done))) rfl sC acs
 refine S.bo 10 .nil [GT.val (⟨bs.mem,ky,bs.buf,bs.ag⟩:ah) (⟨dy.mem,(dy.I.1,Cc),dy.buf,dy.ag⟩:b_)] fun ac w β S=>?_
 have wA:=fs (x:=(⟨bs.mem,ky,bs.buf,bs.ag⟩:ah)) (p:=(⟨dy.mem,(dy.I.1,Cc),dy.buf,dy.ag⟩:b_)) qx fM rn iX (J.symm (J.or (J.symm d65) (J.symm d86))) d66 d67 (J.symm (J.symm (J.or d68 (J.symm d87)))) (J.symm (J.symm (J.or d69 (J.symm d88)))) d70
 exact wP S (show gp h m page need=(⟨bs.mem,ky,bs.buf,bs.ag⟩:ah) from T5) rfl wA Ei
theorem KY {p:Prop} (h:p:=by clear S;(unfold lh;(repeat' split)<;>first|rfl|(exfalso;omega)|(exfalso;simp_all;done)|(exfalso;simp_all;omega)|(simp_all;done))):p:=h
theorem ZP (w0:World) (a:Int) (b:Int):Calls Tryz.prog 335 [aa a,aa b].toArray w0 (fun e w'=>e= .returned (aa (lh a b))/\bB ab w0 w'):=by
 refine Calls.run ab Tryz.func335 ?_
 intro ac β S
 refine S.bd 12 (.cons (aE fun w hw=>DN w a) .nil) (!(a3 a 0 3)) (fun ac w β h1 S=>?_) (fun ac w β h1 S=>?_)
 ·have an:=cm h1
  have b7:=dn an
  exact S.aq 13 .nil [aa 0] (b4 KY)
 have b1:=b9 h1
 have dJ:=cV b1
 refine S.bd 6 (.cons (aE fun w hw=>DN w b) .nil) (!(a3 b 0 3)) (fun ac w β cS S=>?_) (fun ac w β cS S=>?_)
 ·have cE:=cm cS
  have fl:=dn cE
  exact S.aq 7 .nil [aa 0] (b4 KY)
 have ez:=b9 cS
 have iU:=cV ez
 exact S.aq 12 (.cons (qO (x:=a) (y:=b)) .nil) [aa (jK a b)] (b4 KY)
theorem E5 {p:Prop} (h:p:=by clear S;(unfold hQ;(repeat' split)<;>first|rfl|(exfalso;omega)|(exfalso;simp_all;done)|(exfalso;simp_all;omega)|(simp_all;done))):p:=h
theorem ZS (w0:World) (inner:aR) (outer:List aR) (kk:aD aR) (oG:bQ w0 outer kk):Calls Tryz.prog 306 [GT.val inner (),R outer.length kk.1].toArray w0 (fun e w'=>e= .returned (GT.val (hQ inner outer) ())/\bB ab w0 w'):=by
 refine Calls.run ab Tryz.func306 ?_
 intro ac β S
 have J4:outer.length<=4194304:=ae.le oG
 refine S.aI 33 (.cons (aE fun w hw=>Qf w outer kk (bJ (S.arg oG) hw) inner.page) (.cons (aE fun w hw=>ZP w inner.bg (eV outer inner.page).bg) .nil)) (inner.page==(-1)) (fun ac w β h1 a8 S=>?_) (fun ac w β h1 a8 S=>?_)
 ·exact S.aq 18 (.cons (aE fun w hw=>nK w) .nil) [GT.val (⟨-1,0⟩:aR) ()] (hX (p:=()) E5)
 refine S.aI 5 .nil ((eV outer inner.page).page==(-1)) (fun ac w β aF cC S=>?_) (fun ac w β aF cC S=>?_)
 ·exact S.aq 13 (.cons (aE fun w hw=>nK w) .nil) [GT.val (⟨-1,0⟩:aR) ()] (hX (p:=()) E5)
 refine S.aI 5 .nil ((lh inner.bg (eV outer inner.page).bg)==0) (fun ac w β bm c6 S=>?_) (fun ac w β bm c6 S=>?_)
 ·exact S.aq 8 (.cons (aE fun w hw=>nK w) .nil) [GT.val (⟨-1,0⟩:aR) ()] (hX (p:=()) E5)
 exact S.aq 13 (.cons (fY (s:=Instr.build 111 [(0,aa (eV outer inner.page).page),(1,aa (lh inner.bg (eV outer inner.page).bg))].toArray) (v:= .agg [aa (eV outer inner.page).page,aa (lh inner.bg (eV outer inner.page).bg)].toArray) (fun w=>by kernel_rfl)) .nil) [GT.val (⟨(eV outer inner.page).page,(lh inner.bg (eV outer inner.page).bg)⟩:aR) ()] (hX (p:=()) E5)
theorem K0 {p:Prop} (h:p:=by clear S;(unfold lk;(repeat' split)<;>first|rfl|(exfalso;omega)|(exfalso;simp_all;done)|(exfalso;simp_all;omega)|(simp_all;done))):p:=h
theorem ZX (w0:World) (k:bS) (et:fx) (hk:bQ w0 k et) (inner:List aR) (jh:aD aR) (k5:bQ w0 inner jh) (outer:List aR) (kk:aD aR) (oG:bQ w0 outer kk) (page:Int):Calls Tryz.prog 227 [GT.val k et,R inner.length jh.1,R outer.length kk.1,aa page].toArray w0 (dw ab w0 (lk k inner outer page:bS)):=by
 refine Calls.run ab Tryz.func227 ?_
 intro ac β S
 have q4:k.known.length<=4194304:=ae.le (ey.known (d:=k) hk)
 have q5:k.aZ.length<=4194304:=ae.le (ey.aZ (d:=k) hk)
 have Bg:inner.length<=4194304:=ae.le k5
 have J4:outer.length<=4194304:=ae.le oG
 refine S.go 9 .nil fun ac w β S=>S.cJ (r:=k) (d:=10) (DO w k et (S.rd (S.arg hk))) fun ac w N af br S up aA d4=>?_
 clear up d4
 obtain⟨dU,e7,bL,bF,_,_,d11⟩:=uu aA
 refine S.bd 10 (.cons (aE fun w hw=>HQ w k af (bJ (show GT.rd b6 _ _ k af from⟨bL.ak,bF.ak⟩) hw) page) .nil) (decide ((0<=page/\page<k.known.length)/\page<k.aZ.length)) (fun ac w β ec S=>?_) (fun ac w β ec S=>?_)
 ·have hC:=of_decide_eq_true ec
  refine S.aI 7 .nil (decide (page<(inner.length:Int))) (fun ac w β ig lP S=>?_) (fun ac w β ig lP S=>?_)
  ·refine S.go 7 (.cons (cq bL.ak page Tryz.underlying39) .nil) fun ac w β S=>S.fQ (α:=Bool) bL (t:=4) (k:=page.toNat) (j:=0) (off:=af.known.1.off+page.toNat*1) (v:=B true) (y:=true) (q:=()) (fun _ _ _=>⟨ab,trivial,fun _ h=>False.elim h⟩) fun w N cD j6 S up gK d19 ajZ Lz=>?_
   have d22:=d19 _ (J.symm d11) (fun b _ h=>False.elim h) bF.sub
   replace bF:=bF.bk (J.symm d11) up
   clear up d19 bL Lz
   have BA:(k.known.set page.toNat true).length=k.known.length:=List.length_set
   replace S:=S.z (σ':=⟨[(1,.v (R inner.length jh.1)),(2,.v (R outer.length kk.1)),(3,.v (aa page)),(4,.p 0 0),(8,.p 1 0),(23,.v (bh af.known.1.b (af.known.1.off+page.toNat*1)))],[[R k.known.length af.known.1,R k.aZ.length af.aZ.1],cg bS]⟩)
   replace S:=S.cast (σ':=⟨[(1,.v (R inner.length jh.1)),(2,.v (R outer.length kk.1)),(3,.v (aa page)),(4,.p 0 0),(8,.p 1 0),(23,.v (bh af.known.1.b (af.known.1.off+page.toNat*1)))],[[R (k.known.set page.toNat true).length af.known.1,R k.aZ.length af.aZ.1],cg bS]⟩) (by rw [show(k.known.set page.toNat true).length=k.known.length by omega])
   refine S.is fun S=>?_
   refine S.go 2 .nil fun ac w β S=>?_
   refine dI ?_
   refine S.dR (f:=11) 10 (by kernel_rfl) (by kernel_rfl) fun w S=>?_
   refine S.hm 3 [0,1,2,3,4,5,6,7] [] [(25,.v (R k.aZ.length af.aZ.1)),(26,.v (aa page)),(30,.v (GT.val (el inner page.toNat) ())),(31,.v (R outer.length kk.1))] (.cons (cq (S.arg k5) page Tryz.underlying64) (.cons (dz (S.arg k5) 111 page.toNat) .nil)) fun ac S=>?_
   refine S.iN 8 [] [(32,.v (GT.val (hQ (el inner page.toNat) outer) ()))] 2 [] (.cons (aE fun w hw=>ZS w (el inner page.toNat) outer kk (bJ (S.arg oG) hw)) .nil) fun ac w β S=>?_
   refine S.a9 9 [9] [] [(33,.v (bh af.aZ.1.b (af.aZ.1.off+page.toNat*2)))] (.cons (cq bF.ak page Tryz.underlying64) .nil) fun ac S=>?_
   refine ar.one (i:=10) (by kernel_rfl) ?_
   have abe:ed (el k.aZ page.toNat):=(ae.el bF.ak page.toNat (by omega))
   refine id (S.zi (α:=aR) bF (t:=111) (k:=page.toNat) (j:=0) (off:=af.aZ.1.off+page.toNat*2) (v:=GT.val (hQ (el inner page.toNat) outer) ()) (y:=(hQ (el inner page.toNat) outer)) (q:=()) (fun _ _ _=>⟨ab,(Qs (S.arg oG) (el inner page.toNat)),fun _ h=>False.elim h⟩) fun w N lI e9 S up dm d28 NF BE=>?_)
   refine ar.last (by kernel_rfl) ?_
   have d31:=d28 _ (J.symm d22) (fun b _ h=>False.elim h) gK.sub
   replace gK:=gK.bk (J.symm d22) up
   clear up d28 bF BE
   have Le:(k.aZ.set page.toNat (hQ (el inner page.toNat) outer)).length=k.aZ.length:=List.length_set
   replace S:=S.z (σ':=⟨[(4,.p 0 0),(8,.p 1 0),(32,.v (GT.val (hQ (el inner page.toNat) outer) ())),(33,.v (bh af.aZ.1.b (af.aZ.1.off+page.toNat*2)))],[[R (k.known.set page.toNat true).length af.known.1,R k.aZ.length af.aZ.1],cg bS]⟩)
   replace S:=S.cast (σ':=⟨[(4,.p 0 0),(8,.p 1 0),(32,.v (GT.val (hQ (el inner page.toNat) outer) ())),(33,.v (bh af.aZ.1.b (af.aZ.1.off+page.toNat*2)))],[[R (k.known.set page.toNat true).length af.known.1,R (k.aZ.set page.toNat (hQ (el inner page.toNat) outer)).length af.aZ.1],cg bS]⟩) (by rw [show(k.aZ.set page.toNat (hQ (el inner page.toNat) outer)).length=k.aZ.length by omega])
   refine ar.done (by kernel_rfl) ?_ _
   refine S.ex fun S=>?_
   refine S.bo 8 .nil [GT.val (⟨(k.known.set page.toNat true),(k.aZ.set page.toNat (hQ (el inner page.toNat) outer))⟩:bS) (⟨(af.known.1,j6),(af.aZ.1,e9)⟩:fx)] fun ac w β S=>?_
   have gz:=ma (x:=(⟨(k.known.set page.toNat true),(k.aZ.set page.toNat (hQ (el inner page.toNat) outer))⟩:bS)) (p:=(⟨(af.known.1,j6),(af.aZ.1,e9)⟩:fx)) gK dm d31
   exact cy S (show lk k inner outer page=(⟨(k.known.set page.toNat true),(k.aZ.set page.toNat (hQ (el inner page.toNat) outer))⟩:bS) from K0) rfl gz
  refine S.bo 10 .nil [GT.val k af] fun ac w β S=>?_
  have im:=ma (x:=k) (p:=af) bL bF d11
  exact cy S (show lk k inner outer page=k from K0) rfl im
 have IW:=of_decide_eq_false ec
 refine S.bo 17 .nil [GT.val k af] fun ac w β S=>?_
 have e3:=ma (x:=k) (p:=af) bL bF d11
 exact cy S (show lk k inner outer page=k from K0) rfl e3
theorem P8 (w0:World) (b:List aH) (bD:aD aH) (hb:bQ w0 b bD) (tag:Int) (q8:a_ tag) (page:Int) (hG:a_ page):Calls Tryz.prog 174 [R b.length bD.1,aa tag,aa page].toArray w0 (dw ab w0 (cM b tag page:List aH)):=by
 refine Calls.run ab Tryz.func174 ?_
 intro ac β S
 have kG:b.length<=4194304:=ae.le hb
 have ae9:=q8.lo;have aeO:=q8.hi
 have yE:=hG.lo;have yw:=hG.hi
 refine S.go 7 .nil fun ac w β S=>S.gE (α:=aH) (d:=9) fun ac w N af br S up aA d4=>?_
 clear up d4
 refine S.go 10 .nil fun ac w β S=>?_
 refine c8 (fun a4 ac w=>∃(k:Nat) (acc:List aH) (bM:_) (cT:_) (u:_) (N:_) (β:_),a4=b.length-k/\(k<=b.length)/\(acc=jE (b.take k) (fun e=>ic e tag page))/\aj Tryz.prog Tryz.f174.ntmps w0 ab u N β ⟨[(0,.v (R b.length bD.1)),(1,.v (aa tag)),(2,.v (aa page)),(7,.v (R acc.length bM.1)),(8,.v (aa (k:Int)))],[]⟩ ac w/\ad w0 ab u N cT acc bM) _ ⟨0,([]:List aH),af,br,_,_,_,rfl,cw,(by rfl),S.z,aA⟩ ?_
 clear S aA
 rintro f8 a4 e0 ac w ⟨k,acc,bM,cT,u,N,β,rfl,hk,bz,S,ao⟩
 refine S.rs fun S=>?_
 have gI:acc.length<=k:=by rw [bz];exact Nat.le_trans (w5 _ _) (List.length_take_le _ _)
 refine S.aI 9 .nil (decide ((k:Int)<(b.length:Int))) (fun ac w β c2 eb S=>?_) (fun ac w β c2 eb S=>?_)
 ·refine S.aI 15 (.cons (b5 (S.arg hb) k Tryz.underlying29) (.cons (cA (S.arg hb) 3 k 0 (aa (el b k).tag)) .nil)) ((el b k).tag != tag) (fun ac w β ec hC S=>?_) (fun ac w β ec hC S=>?_)
  ·refine S.go 17 (.cons (b5 (S.arg hb) k Tryz.underlying29) (.cons (dz (S.arg hb) 138 k) .nil)) fun ac w β S=>S.h3 (α:=aH) (x:=(el b k)) (p:=()) (F:=ab) (ae.el (S.arg hb) k (by omega)) (fun b h=>False.elim h) (fun b h=>False.elim h) (d:=37) fun ac w N n6 pT S up gK d17=>?_
   replace ao:=ao.up up
   clear up d17
   refine S.kq (α:=aH) ao gK.ak (fun _ _ h=>h) (by':=32) (d:=38) (lx:=acc.length) (ly:=1) rfl rfl (show _<=4194304 by simp only [List.length_append,List.length_cons,List.length_nil];omega) fun ac w N dy h4 S up il d22=>?_
   clear up d22
   refine S.ge 9 (.cons (cc (k:Int) 1) .nil) f8 fun ac w β S=>e0.of (b.length-(k+1)) _ _ (by omega) ⟨k+1,(acc++[(el b k)]),dy,h4,_,_,_,rfl,?_,?_,S.z,il⟩
   ·exact cK
   ·clear S;(first|(rw [s0 (by omega) (CK (by assumption) (by assumption)),bz];done)|(rw [pS (by omega) (sT (by assumption)),bz];done)|(rw [pS (by omega) (wY (by assumption)),bz];done))
  refine S.aI 10 (.cons (b5 (S.arg hb) k Tryz.underlying29) (.cons (cA (S.arg hb) 3 k 1 (aa (el b k).page)) .nil)) ((el b k).page != page) (fun ac w β gR jF S=>?_) (fun ac w β gR jF S=>?_)
  ·refine S.go 7 (.cons (b5 (S.arg hb) k Tryz.underlying29) (.cons (dz (S.arg hb) 138 k) .nil)) fun ac w β S=>S.h3 (α:=aH) (x:=(el b k)) (p:=()) (F:=ab) (ae.el (S.arg hb) k (by omega)) (fun b h=>False.elim h) (fun b h=>False.elim h) (d:=37) fun ac w N ML xf S up g9 d29=>?_
   replace ao:=ao.up up
   clear up d29
   refine S.kq (α:=aH) ao g9.ak (fun _ _ h=>h) (by':=32) (d:=38) (lx:=acc.length) (ly:=1) rfl rfl (show _<=4194304 by simp only [List.length_append,List.length_cons,List.length_nil];omega) fun ac w N kS mR S up gz d34=>?_
   clear up d34
   refine S.ge 9 (.cons (cc (k:Int) 1) .nil) f8 fun ac w β S=>e0.of (b.length-(k+1)) _ _ (by omega) ⟨k+1,(acc++[(el b k)]),kS,mR,_,_,_,rfl,?_,?_,S.z,gz⟩
   ·exact cK
   ·clear S;(first|(rw [s0 (by omega) (CK (by assumption) (by assumption)),bz];done)|(rw [pS (by omega) (sT (by assumption)),bz];done)|(rw [pS (by omega) (wY (by assumption)),bz];done))
  refine S.ge 9 (.cons (cc (k:Int) 1) .nil) f8 fun ac w β S=>e0.of (b.length-(k+1)) _ _ (by omega) ⟨k+1,acc,bM,cT,_,_,_,rfl,?_,?_,S.z,ao⟩
  ·exact cK
  ·clear S;(first|(rw [s0 (by omega) (CK (by assumption) (by assumption)),bz];done)|(rw [pS (by omega) (sT (by assumption)),bz];done)|(rw [pS (by omega) (wY (by assumption)),bz];done))
 refine S.bo 13 .nil [R acc.length bM.1] fun ac w β S=>?_
 exact cy S (show cM b tag page=acc by clear S;(rw [bz,ff (by omega)];rfl)) rfl ao
theorem Qd (w0:World) (b:List aH) (bD:aD aH) (hb:bQ w0 b bD) (e:aH) (he:fi e) (fC:b.length<=6):Calls Tryz.prog 228 [R b.length bD.1,GT.val e ()].toArray w0 (dw ab w0 (dF b e:List aH)):=by
 refine Calls.run ab Tryz.func228 ?_
 intro ac β S
 have hfl:(cM b e.tag e.page).length<=b.length:=w5 _ _
 have aeK:(cM b e.tag e.page++[e]).length=(cM b e.tag e.page).length+1:=by simp
 have kG:b.length<=4194304:=ae.le hb
 refine S.go 7 .nil fun ac w β S=>?_
 refine dI ?_
 let bH:b3:=⟨[(0,.v (R b.length bD.1)),(3,.p 0 0)],[GT.cells e ()]⟩
 obtain⟨bw,bt,bP,S⟩:∃bw bt bP,aj Tryz.prog Tryz.f228.ntmps w0 ab bw bt bP bH ac w:=⟨_,_,_,S.z⟩
 refine me (fun ac w=>∃iL lb u N β,aj Tryz.prog Tryz.f228.ntmps w0 ab u N β (bH.dl [0,3] [(5,.v (R ((cM b e.tag e.page)++[e]).length iL.1))] 0 []) ac w/\ad w0 ab u N lb ((cM b e.tag e.page)++[e]) iL) ?_ ?_
 ·refine S.dR (f:=10) 10 (by kernel_rfl) (by kernel_rfl) fun w S=>?_
  refine S.a9 0 [] [] [(6,.v (R b.length bD.1))] .nil fun ac S=>?_
  refine S.a9 1 [] [] [(7,.p 0 0)] .nil fun ac S=>?_
  refine S.a9 2 [] [] [(8,.v (aa e.tag))] .nil fun ac S=>?_
  refine S.a9 3 [] [] [(9,.p 0 1)] .nil fun ac S=>?_
  refine S.a9 4 [] [] [(10,.v (aa e.page))] .nil fun ac S=>?_
  refine S.a9 6 [] [] [(12,.v (GT.val e ()))] .nil fun ac S=>?_
  refine ar.mH fun W aG=>?_
  refine ar.mj (l':=cp 10 [0,1,2,3,4,6]) (by kernel_rfl) ?_
  have Jp ac w iL lb u N β (S:aj Tryz.prog Tryz.f228.ntmps w0 ab u N β (bH.dl [0,3] [(5,.v (R ((cM b e.tag e.page)++[e]).length iL.1))] 1 []) ac w) (e3:ad w0 ab u N lb ((cM b e.tag e.page)++[e]) iL) (al:d_ bt bw N u) (aP:cR bH.aM.length bP β):W 0 (cp 10 [0,1,2,3,4,5,6,7,8,9]) ac w:=by
   exact mL aG ⟨rfl,iL,lb,_,_,_,S.z,e3⟩
  have AT ac w b0 bV cv cD u N β (S:aj Tryz.prog Tryz.f228.ntmps w0 ab u N β (bH.dl [0,3] [(11,.v (R (cM b e.tag e.page).length b0.1)),(13,.v (R 1 cv.1))] 1 []) ac w) (ao:ad w0 ab u N bV (cM b e.tag e.page) b0) (ba:ad w0 ab u N cD ([e]) cv) (d41:J bV cD) (al:∀b,bt b->N b/\u.heap[b]? =bw.heap[b]? /\¬bV b) (aP:cR bH.aM.length bP β):W 2 (cp 10 [0,1,2,3,4,5,6,7]) ac w:=by
   refine eo aG 8 ?_
   refine id (S.Dj (α:=aH) ao ba.ak (fun _ _ h=>h) (by':=32) (d:=14) (lx:=(cM b e.tag e.page).length) (ly:=1) rfl rfl (by kernel_rfl) (show _<=4194304 by simp only [List.length_append,List.length_cons,List.length_nil];omega) fun ac w N nB zB S up qw d45=>?_)
   have A3:=fun b h=>(⟨(up b (al b h).1 (al b h).2.2).1,(up b (al b h).1 (al b h).2.2).2.trans (al b h).2.1⟩:_/\_)
   refine ar.de S A3 aP fun bj=>?_
   replace ba:=ba.bk (J.symm d41) up
   clear up d45
   exact S.cX aG [9] bj fun _ S=>Jp _ _ nB zB _ _ _ S qw A3 aP
  have Ju ac w b0 bV u N β (S:aj Tryz.prog Tryz.f228.ntmps w0 ab u N β (bH.dl [0,3] [(11,.v (R (cM b e.tag e.page).length b0.1)),(12,.v (GT.val e ()))] 1 []) ac w) (ao:ad w0 ab u N bV (cM b e.tag e.page) b0) (al:∀b,bt b->N b/\u.heap[b]? =bw.heap[b]? /\¬bV b) (aP:cR bH.aM.length bP β):W 3 (cp 10 [0,1,2,3,4,5,6]) ac w:=by
   refine eo aG 7 ?_
   refine id (S.p2 (α:=aH) (x:=e) (p:=()) (F:=ab) he (fun b h=>False.elim h) (fun b h=>False.elim h) (d:=13) (by kernel_rfl) fun ac w N Cj qK S up g_ d52=>?_)
   have vW:=fun b h=>(⟨(up b (al b h).1).1,(up b (al b h).1).2.trans (al b h).2.1,(al b h).2.2⟩:_/\_/\_)
   refine ar.de S (fun b h=>⟨(vW b h).1,(vW b h).2.1⟩) aP fun bj=>?_
   have d54:=d52 _ (fun b _ h=>False.elim h) ao.sub
   replace ao:=ao.up up
   clear up d52
   exact S.cX aG [] bj fun _ S=>AT _ _ b0 bV Cj qK _ _ _ S ao g_ d54 vW aP
  have AW ac w cv cD u N β (S:aj Tryz.prog Tryz.f228.ntmps w0 ab u N β (bH.dl [0,3] [(6,.v (R b.length bD.1)),(8,.v (aa e.tag)),(10,.v (aa e.page)),(13,.v (R 1 cv.1))] 1 []) ac w) (ba:ad w0 ab u N cD ([e]) cv) (al:d_ bt bw N u) (aP:cR bH.aM.length bP β):W 3 (cp 10 [0,1,2,3,4,6,7]) ac w:=by
   refine eo aG 5 ?_
   refine id (S.dB 11 (P8 w b bD (S.rd (S.arg hb)) e.tag (fi.tag (d:=e) he) e.page (fi.page (d:=e) he)) fun ac w N Nj xi S up eB d59=>?_)
   have vX:=fun b h=>(⟨(up b (al b h).1).1,(up b (al b h).1).2.trans (al b h).2,d59 b (al b h).1⟩:_/\_/\_)
   refine ar.de S (fun b h=>⟨(vX b h).1,(vX b h).2.1⟩) aP fun bj=>?_
   have d61:=J.w d59 ba.sub
   replace ba:=ba.up up
   clear up d59
   exact S.cX aG [] bj fun _ S=>AT _ _ Nj xi cv cD _ _ _ S eB ba (J.symm d61) vX aP
  have al:d_ bt bw bt bw:=fun b h=>⟨h,rfl⟩
  have aP:cR bH.aM.length bP bP:=fun _ _=>rfl
  refine gA aG 5 7 ?_ ?_
  ·refine id (S.dB 11 (P8 w b bD (S.rd (S.arg hb)) e.tag (fi.tag (d:=e) he) e.page (fi.page (d:=e) he)) fun ac w N Nl Dd S up B5 d65=>?_)
   have vY:=fun b h=>(⟨(up b (al b h).1).1,(up b (al b h).1).2.trans (al b h).2,d65 b (al b h).1⟩:_/\_/\_)
   refine ar.de S (fun b h=>⟨(vY b h).1,(vY b h).2.1⟩) aP fun bj=>?_
   clear up d65
   exact S.cX aG [] bj fun _ S=>Ju _ _ Nl Dd _ _ _ S B5 vY aP
  ·refine id (S.p2 (α:=aH) (x:=e) (p:=()) (F:=ab) he (fun b h=>False.elim h) (fun b h=>False.elim h) (d:=13) (by kernel_rfl) fun ac w N Nn xk S up j4 d70=>?_)
   have A7:=fun b h=>(⟨(up b (al b h).1).1,(up b (al b h).1).2.trans (al b h).2⟩:_/\_)
   refine ar.de S A7 aP fun bj=>?_
   clear up d70
   exact S.cX aG [] bj fun _ S=>AW _ _ Nn xk _ _ _ S j4 A7 aP
 clear S
 rintro ac w ⟨iL,lb,u,N,β,S,e3⟩
 refine S.ex fun S=>?_
 refine S.aI 9 .nil (decide ((((cM b e.tag e.page)++[e]).length:Int)>6)) (fun ac w β adz acP S=>?_) (fun ac w β adz acP S=>?_)
 ·refine S.go 2 .nil fun ac w β S=>S.gE (α:=aH) (d:=18) fun ac w N rC xl S up wH d77=>?_
  have d78:=J.w d77 e3.sub
  replace e3:=e3.up up
  clear up d77
  have ap_:((((cM b e.tag e.page)++[e]).drop ((((cM b e.tag e.page)++[e]).length:Int)-6).toNat).take (((cM b e.tag e.page)++[e]).length-((((cM b e.tag e.page)++[e]).length:Int)-6).toNat)).length=((cM b e.tag e.page)++[e]).length-((((cM b e.tag e.page)++[e]).length:Int)-6).toNat:=by first|(simp;done)|(simp;omega)
  refine S.go 5 (.cons (hf (((cM b e.tag e.page)++[e]).length:Int) 6) (.cons (Hq (lo:=some (aa ((((cM b e.tag e.page)++[e]).length:Int)-6))) e3.ak (l:=((cM b e.tag e.page)++[e]).length) (a:=((((cM b e.tag e.page)++[e]).length:Int)-6).toNat) (b:=((cM b e.tag e.page)++[e]).length) rfl (.inr (congrArg (fun z=>some (aa z)) (show((((cM b e.tag e.page)++[e]).length:Int)-6)=((((((cM b e.tag e.page)++[e]).length:Int)-6).toNat:Nat):Int) by omega))) (.inl ⟨rfl,rfl⟩) (by omega) (by omega) Tryz.underlying29 (by kernel_rfl)) .nil)) fun ac w β S=>S.lG (α:=aH) wH (show GT.rd b6 _ _ ((((cM b e.tag e.page)++[e]).drop ((((cM b e.tag e.page)++[e]).length:Int)-6).toNat).take (((cM b e.tag e.page)++[e]).length-((((cM b e.tag e.page)++[e]).length:Int)-6).toNat)) ((iL.1.c_ ((((cM b e.tag e.page)++[e]).length:Int)-6).toNat 4,fun i=>iL.2 (((((cM b e.tag e.page)++[e]).length:Int)-6).toNat+i)):aD aH) from Nt e3.ak (a:=((((cM b e.tag e.page)++[e]).length:Int)-6).toNat) (b:=((cM b e.tag e.page)++[e]).length) (by omega) (by omega)) (fun _ _ h=>h) (by':=32) (d:=24) (lx:=0) (ly:=(((cM b e.tag e.page)++[e]).length-((((cM b e.tag e.page)++[e]).length:Int)-6).toNat:Nat)) (by omega) fun ac w N uk Dg S up qy d83=>?_
  replace e3:=e3.bk d78 up
  clear up d83
  refine S.bo 10 .nil [R ((((cM b e.tag e.page)++[e]).drop ((((cM b e.tag e.page)++[e]).length:Int)-6).toNat).take (((cM b e.tag e.page)++[e]).length-((((cM b e.tag e.page)++[e]).length:Int)-6).toNat)).length uk.1] fun ac w β S=>?_
  exact cy S (show dF b e=((((cM b e.tag e.page)++[e]).drop ((((cM b e.tag e.page)++[e]).length:Int)-6).toNat).take (((cM b e.tag e.page)++[e]).length-((((cM b e.tag e.page)++[e]).length:Int)-6).toNat)) by clear S;(first|exact put_eq (by omega)|exact MH (by omega))) rfl qy
 refine S.bo 10 .nil [R ((cM b e.tag e.page)++[e]).length iL.1] fun ac w β S=>?_
 exact cy S (show dF b e=((cM b e.tag e.page)++[e]) by clear S;(first|exact put_eq (by omega)|exact MH (by omega))) rfl e3
theorem nh {p:Prop} (h:p:=by clear S;(first|(rw [agH (by assumption)];done)|(rw [agI (by assumption)];done)|(rw [Lg (by assumption) (by omega) (by omega) (by omega) (by assumption) lV,Ud (by assumption)];first|done|rfl)|(rw [Lg (by assumption) (by omega) (by omega) (by omega) (by assumption) lV,Ue (by assumption) (by assumption)];first|done|rfl)|(rw [Lg (by assumption) (by omega) (by omega) (by omega) (by assumption) lV,Uf (by assumption) (by assumption) (by assumption) (by assumption)];first|done|rfl))):p:=h
theorem aar (w0:World) (h:ah) (ai:b_) (F:au) (aX:GT.own b6 F w0 h ai) (eT:∀b,F b->b<w0.heap.size) (m:Int) (g:Int) (page:Int) (hG:a_ page) (need:Int) (io:Bool) (fC:io=false):Calls Tryz.prog 112 [GT.val h ai,R h.buf.length ai.buf.1,aa m,aa g,aa page,aa need,B io].toArray w0 (zH F ai w0 ((cN h m g page need io).1:ah) ((cN h m g page need io).2.1:Int) ((cN h m g page need io).2.2:Bool)):=by
 refine Calls.run F Tryz.func112 ?_
 intro ac β S
 have eg:ad w0 F w0 (fc w0.heap.size) F h ai:=⟨aX,eT,fun b hb=> .inr hb⟩
 obtain⟨cd,fg,fa,dY,bK,bX,bO,bq,_,_,_,_,d13,d14,d15,d16,d17,d18⟩:=jR eg
 have J6:io=false:=by assumption
 subst J6
 have yE:=hG.lo;have yw:=hG.hi
 refine S.go 10 .nil fun ac w β S=>?_
 refine S.p5 ⟨[(1,.v (R h.buf.length ai.buf.1)),(2,.v (aa m)),(3,.v (aa g)),(4,.v (aa page)),(5,.v (aa need)),(6,.v (B false)),(7,.p 0 0),(14,.p 1 0),(56,.v (B ((((!(eJ h))||(!(a3 m 0 ((h.I.length:Int)-1))))||(!(a3 g 0 (((el h.I m.toNat).U.length:Int)-1))))||((need != 1)&&(need != 2)))))],[[R h.mem.length ai.mem.1,R h.I.length ai.I.1,R h.buf.length ai.buf.1,R h.ag.length ai.ag.1],cg ah]⟩ ?_ ?_
 ·clear S;intro S
  refine S.bd 5 (.cons (aE fun w hw=>Qa w h ai (bJ (show GT.rd b6 _ _ h ai from⟨bK.ak,bX.ak,bO.ak,bq.ak⟩) hw)) .nil) (!(eJ h)) (fun ac w β hp S=>?_) (fun ac w β hp S=>?_)
  ·have lp:=cm hp
   exact S.dG 30 .nil fun ac w β S=>⟨rfl,_,by rw [hp];exact S.z⟩
  have pr:=b9 hp
  have tv:=sq pr
  refine S.bd 9 (.cons (hf (h.I.length:Int) 1) (.cons (aE fun w hw=>fE w m 0 ((h.I.length:Int)-1)) .nil)) (!(a3 m 0 ((h.I.length:Int)-1))) (fun ac w β gR S=>?_) (fun ac w β gR S=>?_)
  ·have yo:=cm gR
   have qe:=dn yo
   exact S.dG 21 .nil fun ac w β S=>⟨rfl,_,by rw [hp,gR];exact S.z⟩
  have lS:=b9 gR
  have Aq:=cV lS
  have XR:(el h.I m.toNat).U.length<=4194304:=ae.le (aU.U (d:=(el h.I m.toNat)) (ae.el bX.ak m.toNat (by omega)))
  refine S.bd 13 (.cons (cq bX.ak m Tryz.underlying28) (.cons (cA bX.ak 71 m.toNat 3 (R (el h.I m.toNat).U.length (ai.I.2 m.toNat).U.1)) (.cons (hf ((el h.I m.toNat).U.length:Int) 1) (.cons (aE fun w hw=>fE w g 0 (((el h.I m.toNat).U.length:Int)-1)) .nil)))) (!(a3 g 0 (((el h.I m.toNat).U.length:Int)-1))) (fun ac w β lq S=>?_) (fun ac w β lq S=>?_)
  ·have lT:=cm lq
   have vf:=dn lT
   exact S.dG 8 .nil fun ac w β S=>⟨rfl,_,by rw [hp,gR,lq];exact S.z⟩
  have m_:=b9 lq
  have r8:=cV m_
  refine S.aI 3 .nil (need != 1) (fun ac w β kD pq S=>?_) (fun ac w β kD pq S=>?_)
  ·exact S.dG 5 .nil fun ac w β S=>⟨rfl,_,by rw [hp,gR,lq,kD];exact S.z⟩
  exact S.dG 5 .nil fun ac w β S=>⟨rfl,_,by rw [hp,gR,lq,kD];exact S.z⟩
 clear S;intro ac w β S
 refine S.bd 1 .nil ((((!(eJ h))||(!(a3 m 0 ((h.I.length:Int)-1))))||(!(a3 g 0 (((el h.I m.toNat).U.length:Int)-1))))||((need != 1)&&(need != 2))) (fun ac w β k4 S=>?_) (fun ac w β k4 S=>?_)
 ·refine S.bo 10 .nil [GT.val h ai,aa (-1),B false] fun ac w β S=>?_
  have lv:=fs (x:=h) (p:=ai) bK bX bO bq d13 d14 d15 d16 d17 d18
  exact Cr S (show(cN h m g page need false).1=h from nh) (show(cN h m g page need false).2.1=(-1) from nh) (show(cN h m g page need false).2.2=false from nh) rfl lv (show a_ (-1) from⟨by decide,by decide⟩) (df.g3 _)
 obtain⟨q1,lU⟩:=n4 k4
 obtain⟨pt,na⟩:=n4 q1
 obtain⟨yq,Ax⟩:=n4 pt
 have qg:=b9 yq
 have IX:=sq qg
 have r_:=b9 Ax
 have Ee:=cV r_
 have Ej:=b9 na
 have Ef:=cV Ej
 have Ry:=UD lU
 refine S.bd 32 (.cons (cq bX.ak m Tryz.underlying28) (.cons (cA bX.ak 71 m.toNat 3 (R (el h.I m.toNat).U.length (ai.I.2 m.toNat).U.1)) (.cons (cq (aU.U (d:=(el h.I m.toNat)) (ae.el bX.ak m.toNat (by omega))) g Tryz.underlying71) (.cons (cA (aU.U (d:=(el h.I m.toNat)) (ae.el bX.ak m.toNat (by omega))) 64 g.toNat 4 (R (el (el h.I m.toNat).U g.toNat).live.length ((ai.I.2 m.toNat).U.2 g.toNat).live.1)) (.cons (aE fun w hw=>aai w (el (el h.I m.toNat).U g.toNat).live ((ai.I.2 m.toNat).U.2 g.toNat).live (bJ (az.live (d:=(el (el h.I m.toNat).U g.toNat)) (ae.el (aU.U (d:=(el h.I m.toNat)) (ae.el bX.ak m.toNat (by omega))) g.toNat (by omega))) hw) page need) .nil))))) (!(cW (el (el h.I m.toNat).U g.toNat).live page need).2) (fun ac w β sa S=>?_) (fun ac w β sa S=>?_)
 ·have Jg:=cm sa
  refine S.bo 10 .nil [GT.val h ai,aa (-1),B false] fun ac w β S=>?_
  have qx:=fs (x:=h) (p:=ai) bK bX bO bq d13 d14 d15 d16 d17 d18
  exact Cr S (show(cN h m g page need false).1=h from nh) (show(cN h m g page need false).2.1=(-1) from nh) (show(cN h m g page need false).2.2=false from nh) rfl qx (show a_ (-1) from⟨by decide,by decide⟩) (df.g3 _)
 have adx:=b9 sa
 have aoq:=uy adx
 refine S.go 18 (.cons (aE fun w hw=>aaf w m g) .nil) fun ac w β S=>?_
 refine iw S (fun ac w=>∃(aL:List aO) (fW:aD aO) (ku:au) (u:_) (N:_) (β:_),(aL=(kd h m (cW (el (el h.I m.toNat).U g.toNat).live page need).1 need).I)/\aj Tryz.prog Tryz.f112.ntmps w0 F u N β ⟨[(1,.v (R h.buf.length ai.buf.1)),(2,.v (aa m)),(3,.v (aa g)),(4,.v (aa page)),(5,.v (aa need)),(6,.v (B false)),(7,.p 0 0),(14,.p 1 0),(17,.v (aa (cW (el (el h.I m.toNat).U g.toNat).live page need).1)),(19,.v (aa (bR m g)))],[[R h.mem.length ai.mem.1,R aL.length fW.1,R h.buf.length ai.buf.1,R h.ag.length ai.ag.1],cg ah]⟩ ac w/\ad w0 F u N ku aL fW/\ad w0 F u N cd h.mem ai.mem/\ad w0 F u N fa h.buf ai.buf/\ad w0 F u N dY h.ag ai.ag/\J cd ku/\J fa ku/\J dY ku/\df ai.I.2 fW.2) ?_ ?_
 ·clear S;intro S
  refine S.aI 0 .nil (need==2) (fun ac w β vl Eh S=>?_) (fun ac w β vl Eh S=>?_)
  ·obtain⟨De,sG,zf,X2⟩:=Rl bX (k:=m.toNat) (show m.toNat<h.I.length by omega)
   have ap6:=ae.le sG.ak
   have ahu:=sG.sub
   refine S.go 10 (.cons (cq bX.ak m Tryz.underlying28) (.cons (cA bX.ak 39 m.toNat 2 (R (el h.I m.toNat).aT.length (ai.I.2 m.toNat).aT.1)) (.cons (eP (aU.aT (d:=(el h.I m.toNat)) (ae.el bX.ak m.toNat (by omega))) (l:=(el h.I m.toNat).aT.length) (k:=(cW (el (el h.I m.toNat).U g.toNat).live page need).1.toNat) (i:=(cW (el (el h.I m.toNat).U g.toNat).live page need).1) rfl (by omega) (by omega) Tryz.underlying39 (by kernel_rfl)) .nil))) fun ac w β S=>S.fQ (α:=Bool) sG (t:=4) (k:=(cW (el (el h.I m.toNat).U g.toNat).live page need).1.toNat) (j:=0) (off:=(ai.I.2 m.toNat).aT.1.off+(cW (el (el h.I m.toNat).U g.toNat).live page need).1.toNat*1) (v:=B true) (y:=true) (q:=()) (fun _ _ _=>⟨ab,trivial,fun _ h=>False.elim h⟩) fun w N Hl rB S up iY d73 sS Ux=>?_
   have d76:=d73 _ (J.symm (J.part (J.symm d13) zf)) (fun b _ h=>False.elim h) bK.sub
   have d77:=d73 _ (J.symm (J.part d16 zf)) (fun b _ h=>False.elim h) bO.sub
   have d78:=d73 _ (J.symm (J.part d17 zf)) (fun b _ h=>False.elim h) bq.sub
   replace bK:=bK.bk (J.symm (J.part (J.symm d13) zf)) up
   replace bO:=bO.bk (J.symm (J.part d16 zf)) up
   replace bq:=bq.bk (J.symm (J.part d17 zf)) up
   clear d73 sG
   obtain⟨y1,rq,Yt,RC⟩:=X2 _ _ _ _ _ ab up iY sS (fun b _ h=>False.elim h) (by show [R _ _]=[R _ _];rw [List.length_set]) (fun b h=>Ux b (ahu b h))
   have acS:=df.iP (df.g3 _) RC
   clear up iY Ux
   have Ub:(h.I.set m.toNat ({el h.I m.toNat with aT:=((el h.I m.toNat).aT.set (cW (el (el h.I m.toNat).U g.toNat).live page need).1.toNat true)})).length=h.I.length:=List.length_set
   obtain⟨Hv,Sc⟩:∃z,z=h.I.set m.toNat ({el h.I m.toNat with aT:=((el h.I m.toNat).aT.set (cW (el (el h.I m.toNat).U g.toNat).live page need).1.toNat true)}):=⟨_,rfl⟩
   rw [←Sc] at rq Yt Ub
   obtain⟨aqb,ans⟩:=Gm Sc (show m.toNat<h.I.length by omega) List.length_set
   replace S:=S.z (σ':=⟨[(1,.v (R h.buf.length ai.buf.1)),(2,.v (aa m)),(3,.v (aa g)),(4,.v (aa page)),(5,.v (aa need)),(6,.v (B false)),(7,.p 0 0),(14,.p 1 0),(17,.v (aa (cW (el (el h.I m.toNat).U g.toNat).live page need).1)),(19,.v (aa (bR m g))),(89,.v (bh (ai.I.2 m.toNat).aT.1.b ((ai.I.2 m.toNat).aT.1.off+(cW (el (el h.I m.toNat).U g.toNat).live page need).1.toNat*1)))],[[R h.mem.length ai.mem.1,R h.I.length ai.I.1,R h.buf.length ai.buf.1,R h.ag.length ai.ag.1],cg ah]⟩)
   replace S:=S.cast (σ':=⟨[(1,.v (R h.buf.length ai.buf.1)),(2,.v (aa m)),(3,.v (aa g)),(4,.v (aa page)),(5,.v (aa need)),(6,.v (B false)),(7,.p 0 0),(14,.p 1 0),(17,.v (aa (cW (el (el h.I m.toNat).U g.toNat).live page need).1)),(19,.v (aa (bR m g))),(89,.v (bh (ai.I.2 m.toNat).aT.1.b ((ai.I.2 m.toNat).aT.1.off+(cW (el (el h.I m.toNat).U g.toNat).live page need).1.toNat*1)))],[[R h.mem.length ai.mem.1,R Hv.length ai.I.1,R h.buf.length ai.buf.1,R h.ag.length ai.ag.1],cg ah]⟩) (by rw [show Hv.length=h.I.length by omega])
   refine S.is fun S=>?_
   exact S.dG 1 .nil fun ac w β S=>⟨rfl,Hv,(ai.I.1,y1),(Or fg Hl),_,_,_,(by clear S;first|exact DU (by assumption) rfl|exact DU (by assumption) (by assumption)|exact Qx (by assumption)),S.z,rq,bK,bO,bq,(J.symm (J.or (J.symm d13) (J.symm d76))),(J.symm (J.or d16 (J.symm d77))),(J.symm (J.or d17 (J.symm d78))),acS⟩
  exact S.dG 2 .nil fun ac w β S=>⟨rfl,h.I,ai.I,fg,_,_,_,(by clear S;first|exact DU (by assumption) rfl|exact DU (by assumption) (by assumption)|exact Qx (by assumption)),S.z,bX,bK,bO,bq,d13,(J.symm d16),(J.symm d17),(df.g3 _)⟩
 clear S bK bX bO bq
 rintro ac w ⟨aL,fW,ku,u,N,β,lV,S,e8,bK,bO,bq,d89,d90,d91,yd⟩
 have bp:=Aj lV (uy (by assumption)).1
 refine S.ex fun S=>?_
 have i92:fi (dt h.buf (bR m g) page).1:=(Rf bO.ak (bR m g) page)
 refine S.go 17 (.cons (aE fun w hw=>ZY w h.buf ai.buf (bJ bO.ak hw) (bR m g) page) .nil) fun ac w β S=>?_
 refine S.p5 ⟨[(2,.v (aa m)),(3,.v (aa g)),(4,.v (aa page)),(5,.v (aa need)),(6,.v (B false)),(7,.p 0 0),(14,.p 1 0),(17,.v (aa (cW (el (el h.I m.toNat).U g.toNat).live page need).1)),(19,.v (aa (bR m g))),(20,.p 2 0),(103,.v (B ((dt h.buf (bR m g) page).2&&(fj (dt h.buf (bR m g) page).1.bg need))))],[[R h.mem.length ai.mem.1,R aL.length fW.1,R h.buf.length ai.buf.1,R h.ag.length ai.ag.1],cg ah,GT.cells (dt h.buf (bR m g) page).1 ()]⟩ ?_ ?_
 ·clear S;intro S
  refine S.bd 3 .nil (dt h.buf (bR m g) page).2 (fun ac w β vm S=>?_) (fun ac w β vm S=>?_)
  ·exact S.dG 6 (.cons (aE fun w hw=>DM w (dt h.buf (bR m g) page).1.bg need) .nil) fun ac w β S=>⟨rfl,_,by rw [vm];exact S.z⟩
  exact S.dG 6 .nil fun ac w β S=>⟨rfl,_,by rw [vm];exact S.z⟩
 clear S;intro ac w β S
 refine S.bd 1 .nil ((dt h.buf (bR m g) page).2&&(fj (dt h.buf (bR m g) page).1.bg need)) (fun ac w β tB S=>?_) (fun ac w β tB S=>?_)
 ·obtain⟨aoF,AI⟩:=OT tB
  have I2:=qU AI
  refine S.go 2 .nil fun ac w β S=>?_
  refine dI ?_
  let uG:b3:=⟨[(2,.v (aa m)),(3,.v (aa g)),(4,.v (aa page)),(5,.v (aa need)),(6,.v (B false)),(7,.p 0 0),(14,.p 1 0),(17,.v (aa (cW (el (el h.I m.toNat).U g.toNat).live page need).1)),(19,.v (aa (bR m g))),(20,.p 2 0),(103,.v (B true))],[[R h.mem.length ai.mem.1,R aL.length fW.1,R h.buf.length ai.buf.1,R h.ag.length ai.ag.1],cg ah,GT.cells (dt h.buf (bR m g) page).1 ()]⟩
  obtain⟨bw,bt,bP,S,bK,bO,bq,e8⟩:∃bw bt bP,aj Tryz.prog Tryz.f112.ntmps w0 F bw bt bP uG ac w/\ad w0 F bw bt cd h.mem ai.mem/\ad w0 F bw bt fa h.buf ai.buf/\ad w0 F bw bt dY h.ag ai.ag/\ad w0 F bw bt ku aL fW:=⟨_,_,_,S.z,bK,bO,bq,e8⟩
  refine me (fun ac w=>∃u N β,aj Tryz.prog Tryz.f112.ntmps w0 F u N β (uG.dl [2,3,4,5,6,7,17,19,20,103] [(15,.v (aa (dt h.buf (bR m g) page).1.host)),(16,.v (B true))] 2 [(1,[R h.mem.length ai.mem.1,R aL.length fW.1,R h.buf.length ai.buf.1,R h.ag.length ai.ag.1])]) ac w/\ad w0 F u N cd h.mem ai.mem/\ad w0 F u N fa h.buf ai.buf/\ad w0 F u N dY h.ag ai.ag/\ad w0 F u N ku aL fW/\fi (dt h.buf (bR m g) page).1) ?_ ?_
  ·refine S.dR (f:=6) 3 (by kernel_rfl) (by kernel_rfl) fun w S=>?_
   refine S.a9 0 [0] [] [(104,.v (GT.val (⟨h.mem,aL,h.buf,h.ag⟩:ah) (⟨ai.mem,fW,ai.buf,ai.ag⟩:b_)))] .nil fun ac S=>?_
   refine ar.mH fun W aG=>?_
   refine ar.mj (l':=cp 6 [0]) (by kernel_rfl) ?_
   have RM ac w u N β (S:aj Tryz.prog Tryz.f112.ntmps w0 F u N β (uG.dl [2,3,4,5,6,7,17,19,20,103] [(15,.v (aa (dt h.buf (bR m g) page).1.host)),(16,.v (B true))] 3 [(1,[R h.mem.length ai.mem.1,R aL.length fW.1,R h.buf.length ai.buf.1,R h.ag.length ai.ag.1])]) ac w) (bK:ad w0 F u N cd h.mem ai.mem) (bO:ad w0 F u N fa h.buf ai.buf) (bq:ad w0 F u N dY h.ag ai.ag) (e8:ad w0 F u N ku aL fW) (i99:fi (dt h.buf (bR m g) page).1):W 0 (cp 6 [0,1,2,3,4,5]) ac w:=by
    exact mL aG ⟨rfl,_,_,_,S.z,bK,bO,bq,e8,i99⟩
   have adL ac w u N β (S:aj Tryz.prog Tryz.f112.ntmps w0 F u N β (uG.dl [2,3,4,5,6,7,17,19,20,103] [(104,.v (GT.val (⟨h.mem,aL,h.buf,h.ag⟩:ah) (⟨ai.mem,fW,ai.buf,ai.ag⟩:b_))),(106,.v (aa (dt h.buf (bR m g) page).1.host))] 3 []) ac w) (bK:ad w0 F u N cd h.mem ai.mem) (bO:ad w0 F u N fa h.buf ai.buf) (bq:ad w0 F u N dY h.ag ai.ag) (e8:ad w0 F u N ku aL fW) (i99:fi (dt h.buf (bR m g) page).1) (al:d_ bt bw N u) (aP:cR uG.aM.length bP β):W 3 (cp 6 [0,1,2]) ac w:=by
    exact eo aG 3 (S.wl aG [4,5] .nil fun _ _ _ S=>RM _ _ _ _ _ S bK bO bq e8 i99)
   have adM ac w u N β (S:aj Tryz.prog Tryz.f112.ntmps w0 F u N β (uG.dl [2,3,4,5,6,7,17,19,20,103] [(105,.p 2 2)] 3 [(1,[R h.mem.length ai.mem.1,R aL.length fW.1,R h.buf.length ai.buf.1,R h.ag.length ai.ag.1])]) ac w) (bK:ad w0 F u N cd h.mem ai.mem) (bO:ad w0 F u N fa h.buf ai.buf) (bq:ad w0 F u N dY h.ag ai.ag) (e8:ad w0 F u N ku aL fW) (i99:fi (dt h.buf (bR m g) page).1):W 3 (cp 6 [0,1,3]) ac w:=by
    exact eo aG 2 (S.wl aG [4,5] .nil fun _ _ _ S=>RM _ _ _ _ _ S bK bO bq e8 i99)
   have adN ac w u N β (S:aj Tryz.prog Tryz.f112.ntmps w0 F u N β (uG.dl [2,3,4,5,6,7,17,19,20,103] [(104,.v (GT.val (⟨h.mem,aL,h.buf,h.ag⟩:ah) (⟨ai.mem,fW,ai.buf,ai.ag⟩:b_))),(105,.p 2 2)] 3 []) ac w) (bK:ad w0 F u N cd h.mem ai.mem) (bO:ad w0 F u N fa h.buf ai.buf) (bq:ad w0 F u N dY h.ag ai.ag) (e8:ad w0 F u N ku aL fW) (al:d_ bt bw N u) (aP:cR uG.aM.length bP β):W 4 (cp 6 [0,1]) ac w:=by
    exact gA aG 2 3 (S.e_ aG al aP [] .nil fun _ _ _ S cb=>adL _ _ _ _ _ S bK bO bq e8 i92 al cb) (S.wl aG [] .nil fun _ _ _ S=>adM _ _ _ _ _ S bK bO bq e8 i92)
   rw [aG]
   exact S.cX aG [1] (fun _=>S.um) fun _ S=>adN _ _ _ _ _ S bK bO bq e8 (fun _ h=>⟨h,rfl⟩) (fun _ _=>rfl)
  clear S bK bO bq e8
  rintro ac w ⟨u,N,β,S,bK,bO,bq,e8,i99⟩
  refine S.ex fun S=>?_
  refine S.bo 2 .nil [GT.val (⟨h.mem,aL,h.buf,h.ag⟩:ah) (⟨ai.mem,fW,ai.buf,ai.ag⟩:b_),aa (dt h.buf (bR m g) page).1.host,B true] fun ac w β S=>?_
  have LF:=fs (x:=(⟨h.mem,aL,h.buf,h.ag⟩:ah)) (p:=(⟨ai.mem,fW,ai.buf,ai.ag⟩:b_)) bK e8 bO bq d89 d14 d15 (J.symm d90) (J.symm d91) d18
  exact Cr S (show(cN h m g page need false).1=(⟨h.mem,aL,h.buf,h.ag⟩:ah) from nh) (show(cN h m g page need false).2.1=(dt h.buf (bR m g) page).1.host from nh) (show(cN h m g page need false).2.2=true from nh) rfl LF (fi.host (d:=(dt h.buf (bR m g) page).1) i99) yd
 have i105:ed (aV (el (el aL m.toNat).tables g.toNat) page).1:=(Dl (ae.el (aU.tables (d:=(el aL m.toNat)) (ae.el e8.ak m.toNat (by omega))) g.toNat (by omega)) page)
 refine S.go 26 (.cons (cq e8.ak m Tryz.underlying28) (.cons (cA e8.ak 72 m.toNat 7 (R (el aL m.toNat).tables.length (fW.2 m.toNat).tables.1)) (.cons (cq (aU.tables (d:=(el aL m.toNat)) (ae.el e8.ak m.toNat (by omega))) g Tryz.underlying72) (.cons (dz (aU.tables (d:=(el aL m.toNat)) (ae.el e8.ak m.toNat (by omega))) 165 g.toNat) (.cons (aE fun w hw=>P4 w (el (el aL m.toNat).tables g.toNat) ((fW.2 m.toNat).tables.2 g.toNat) (bJ (ae.el (aU.tables (d:=(el aL m.toNat)) (ae.el e8.ak m.toNat (by omega))) g.toNat (by omega)) hw) page) .nil))))) fun ac w β S=>?_
 refine S.p5 ⟨[(2,.v (aa m)),(3,.v (aa g)),(4,.v (aa page)),(5,.v (aa need)),(6,.v (B false)),(7,.p 0 0),(14,.p 1 0),(17,.v (aa (cW (el (el h.I m.toNat).U g.toNat).live page need).1)),(19,.v (aa (bR m g))),(20,.p 2 0),(22,.p 3 0),(134,.v (B (((!(aV (el (el aL m.toNat).tables g.toNat) page).2)||((aV (el (el aL m.toNat).tables g.toNat) page).1.page==(-1)))||(!(fj (aV (el (el aL m.toNat).tables g.toNat) page).1.bg need)))))],[[R h.mem.length ai.mem.1,R aL.length fW.1,R h.buf.length ai.buf.1,R h.ag.length ai.ag.1],cg ah,GT.cells (dt h.buf (bR m g) page).1 (),GT.cells (aV (el (el aL m.toNat).tables g.toNat) page).1 ()]⟩ ?_ ?_
 ·clear S;intro S
  refine S.bd 4 .nil (!(aV (el (el aL m.toNat).tables g.toNat) page).2) (fun ac w β yn S=>?_) (fun ac w β yn S=>?_)
  ·have I7:=cm yn
   exact S.dG 12 .nil fun ac w β S=>⟨rfl,_,by rw [yn];exact S.z⟩
  have aox:=b9 yn
  refine S.aI 5 .nil ((aV (el (el aL m.toNat).tables g.toNat) page).1.page==(-1)) (fun ac w β Aw acm S=>?_) (fun ac w β Aw acm S=>?_)
  ·exact S.dG 7 .nil fun ac w β S=>⟨rfl,_,by rw [yn,Aw];exact S.z⟩
  exact S.dG 7 (.cons (aE fun w hw=>DM w (aV (el (el aL m.toNat).tables g.toNat) page).1.bg need) .nil) fun ac w β S=>⟨rfl,_,by rw [yn,Aw];exact S.z⟩
 clear S;intro ac w β S
 refine S.bd 1 .nil (((!(aV (el (el aL m.toNat).tables g.toNat) page).2)||((aV (el (el aL m.toNat).tables g.toNat) page).1.page==(-1)))||(!(fj (aV (el (el aL m.toNat).tables g.toNat) page).1.bg need))) (fun ac w β RF S=>?_) (fun ac w β RF S=>?_)
 ·have Ft:=fs (x:=(⟨h.mem,aL,h.buf,h.ag⟩:ah)) (p:=(⟨ai.mem,fW,ai.buf,ai.ag⟩:b_)) bK e8 bO bq d89 d14 d15 (J.symm d90) (J.symm d91) d18
  obtain⟨av,hq⟩:∃z,z=(gp (⟨h.mem,aL,h.buf,h.ag⟩:ah) m (cW (el (el h.I m.toNat).U g.toNat).live page need).1 need):=⟨_,rfl⟩
  have af5:=Lq hq (Aj lV (uy (by assumption)).1).1
  try dsimp only at af5
  refine S.go 7 .nil fun ac w β S=>S.zE (d:=139) Ft hq (aap w (⟨h.mem,aL,h.buf,h.ag⟩:ah) (⟨ai.mem,fW,ai.buf,ai.ag⟩:b_) (j8 [cd,ku,fa,dY]) (S.fP Ft) (fun b hb=>(S.sep b (Ft.sub b hb)).1) m (cW (el (el h.I m.toNat).U g.toNat).live page need).1 need (by first|omega|exact(Aj lV (uy (by assumption)).1).1) (by first|omega|exact(Aj lV (uy (by assumption)).1).1) (by first|omega|exact(Aj lV (uy (by assumption)).1).1)) fun ac w N dv alF S up jL d116 IS=>?_
  clear up d116 Ft
  obtain⟨xb,qH,Of,rM,gJ,ik,sC,gv,_,_,_,_,d131,_,d133,d134,d135,_⟩:=jR jL
  have acw:=df.iP yd IS
  refine S.go 4 .nil fun ac w β S=>?_
  refine dI ?_
  refine S.dR (f:=36) 35 (by kernel_rfl) (by kernel_rfl) fun w S=>?_
  refine S.hm 3 [0,1,2,3,4,5,6,7,8,9,10,11,12,13,14,15,16,17,18,19,20,21,22,23,24,25,26,27,28,29,30,31,32] [] [(145,.v (R (el av.I m.toNat).tables.length (dv.I.2 m.toNat).tables.1)),(146,.v (aa g)),(155,.v (GT.val (el (el av.I m.toNat).tables g.toNat) ((dv.I.2 m.toNat).tables.2 g.toNat))),(165,.v (R (el (el av.I m.toNat).U g.toNat).live.length ((dv.I.2 m.toNat).U.2 g.toNat).live.1)),(171,.v (R (el av.I m.toNat).outer.length (dv.I.2 m.toNat).outer.1)),(172,.v (aa page))] (.cons (cq ik.ak m Tryz.underlying28) (.cons (cA ik.ak 72 m.toNat 7 (R (el av.I m.toNat).tables.length (dv.I.2 m.toNat).tables.1)) (.cons (cq ik.ak m Tryz.underlying28) (.cons (cA ik.ak 72 m.toNat 7 (R (el av.I m.toNat).tables.length (dv.I.2 m.toNat).tables.1)) (.cons (cq (aU.tables (d:=(el av.I m.toNat)) (ae.el ik.ak m.toNat (by omega))) g Tryz.underlying72) (.cons (dz (aU.tables (d:=(el av.I m.toNat)) (ae.el ik.ak m.toNat (by omega))) 165 g.toNat) (.cons (cq ik.ak m Tryz.underlying28) (.cons (cA ik.ak 71 m.toNat 3 (R (el av.I m.toNat).U.length (dv.I.2 m.toNat).U.1)) (.cons (cq (aU.U (d:=(el av.I m.toNat)) (ae.el ik.ak m.toNat (by omega))) g Tryz.underlying71) (.cons (cA (aU.U (d:=(el av.I m.toNat)) (ae.el ik.ak m.toNat (by omega))) 64 g.toNat 4 (R (el (el av.I m.toNat).U g.toNat).live.length ((dv.I.2 m.toNat).U.2 g.toNat).live.1)) (.cons (cq ik.ak m Tryz.underlying28) (.cons (cA ik.ak 64 m.toNat 0 (R (el av.I m.toNat).outer.length (dv.I.2 m.toNat).outer.1)) .nil)))))))))))) fun ac S=>?_
  refine ar.one (i:=33) (by kernel_rfl) ?_
  refine id (S.dB 173 (ZX w (el (el av.I m.toNat).tables g.toNat) ((dv.I.2 m.toNat).tables.2 g.toNat) (S.rd (ae.el (aU.tables (d:=(el av.I m.toNat)) (ae.el ik.ak m.toNat (by omega))) g.toNat (by omega))) (el (el av.I m.toNat).U g.toNat).live ((dv.I.2 m.toNat).U.2 g.toNat).live (S.rd (az.live (d:=(el (el av.I m.toNat).U g.toNat)) (ae.el (aU.U (d:=(el av.I m.toNat)) (ae.el ik.ak m.toNat (by omega))) g.toNat (by omega)))) (el av.I m.toNat).outer (dv.I.2 m.toNat).outer (S.rd (aU.outer (d:=(el av.I m.toNat)) (ae.el ik.ak m.toNat (by omega)))) page) fun ac w N VB Oj S up tU d141=>?_)
  refine ar.next S up (by kernel_rfl) ?_
  have d142:=J.w d141 gJ.sub
  have d143:=J.w d141 ik.sub
  have d145:=J.w d141 gv.sub
  replace gJ:=gJ.up up
  replace ik:=ik.up up
  replace sC:=sC.up up
  replace gv:=gv.up up
  clear up d141
  refine S.a9 34 [34] [] [(174,.v (bh (dv.I.2 m.toNat).tables.1.b ((dv.I.2 m.toNat).tables.1.off+g.toNat*2)))] (.cons (cq (aU.tables (d:=(el av.I m.toNat)) (ae.el ik.ak m.toNat (by omega))) g Tryz.underlying72) .nil) fun ac S=>?_
  refine ar.one (i:=35) (by kernel_rfl) ?_
  obtain⟨C7,rk,zc,XD⟩:=Ro ik (k:=m.toNat) (show m.toNat<av.I.length by omega)
  have agb:=ae.le rk.ak
  have ag1:=rk.sub
  refine id (S.kU (α:=bS) rk (t:=165) (k:=g.toNat) (off:=(dv.I.2 m.toNat).tables.1.off+g.toNat*2) tU (J.symm (J.symm (J.part d143 zc))) fun w N xc aqu S up yW d155 NA Fp=>?_)
  refine ar.last (by kernel_rfl) ?_
  have d158:=d155 _ (J.symm (J.part (J.symm d131) zc)) d142 gJ.sub
  have d160:=d155 _ (J.symm (J.part d135 zc)) d145 gv.sub
  replace gJ:=gJ.bk (J.symm (J.part (J.symm d131) zc)) up
  replace sC:=sC.bk (J.symm (J.part d134 zc)) up
  replace gv:=gv.bk (J.symm (J.part d135 zc)) up
  clear d155 rk
  obtain⟨oQ,iI,Yk,acE⟩:=XD _ _ _ _ _ Oj up yW NA d143 (by show [R _ _]=[R _ _];rw [List.length_set]) (fun b h=>Fp b (ag1 b h))
  have acF:=df.iP acw acE
  clear up yW Fp
  have agc:(av.I.set m.toNat ({el av.I m.toNat with tables:=((el av.I m.toNat).tables.set g.toNat (lk (el (el av.I m.toNat).tables g.toNat) (el (el av.I m.toNat).U g.toNat).live (el av.I m.toNat).outer page))})).length=av.I.length:=List.length_set
  obtain⟨dr,R0⟩:∃z,z=av.I.set m.toNat ({el av.I m.toNat with tables:=((el av.I m.toNat).tables.set g.toNat (lk (el (el av.I m.toNat).tables g.toNat) (el (el av.I m.toNat).U g.toNat).live (el av.I m.toNat).outer page))}):=⟨_,rfl⟩
  rw [←R0] at iI Yk agc
  obtain⟨apx,ane⟩:=zl R0 (show m.toNat<av.I.length by omega) List.length_set
  replace S:=S.z (σ':=⟨[(2,.v (aa m)),(3,.v (aa g)),(4,.v (aa page)),(6,.v (B false)),(7,.p 0 0),(14,.p 1 0),(19,.v (aa (bR m g))),(20,.p 2 0),(22,.p 3 0),(173,.v (GT.val (lk (el (el av.I m.toNat).tables g.toNat) (el (el av.I m.toNat).U g.toNat).live (el av.I m.toNat).outer page) VB)),(174,.v (bh (dv.I.2 m.toNat).tables.1.b ((dv.I.2 m.toNat).tables.1.off+g.toNat*2)))],[[R av.mem.length dv.mem.1,R av.I.length dv.I.1,R av.buf.length dv.buf.1,R av.ag.length dv.ag.1],cg ah,GT.cells (dt h.buf (bR m g) page).1 (),GT.cells (aV (el (el aL m.toNat).tables g.toNat) page).1 ()]⟩)
  replace S:=S.cast (σ':=⟨[(2,.v (aa m)),(3,.v (aa g)),(4,.v (aa page)),(6,.v (B false)),(7,.p 0 0),(14,.p 1 0),(19,.v (aa (bR m g))),(20,.p 2 0),(22,.p 3 0),(173,.v (GT.val (lk (el (el av.I m.toNat).tables g.toNat) (el (el av.I m.toNat).U g.toNat).live (el av.I m.toNat).outer page) VB)),(174,.v (bh (dv.I.2 m.toNat).tables.1.b ((dv.I.2 m.toNat).tables.1.off+g.toNat*2)))],[[R av.mem.length dv.mem.1,R dr.length dv.I.1,R av.buf.length dv.buf.1,R av.ag.length dv.ag.1],cg ah,GT.cells (dt h.buf (bR m g) page).1 (),GT.cells (aV (el (el aL m.toNat).tables g.toNat) page).1 ()]⟩) (by rw [show dr.length=av.I.length by omega])
  refine ar.done (by kernel_rfl) ?_ _
  refine S.ex fun S=>?_
  have i171:ed (aV (el (el dr m.toNat).tables g.toNat) page).1:=(Dl (ae.el (aU.tables (d:=(el dr m.toNat)) (ae.el iI.ak m.toNat (by omega))) g.toNat (by omega)) page)
  refine S.go 42 (.cons (cq iI.ak m Tryz.underlying28) (.cons (cA iI.ak 72 m.toNat 7 (R (el dr m.toNat).tables.length ((dv.I.1,oQ).2 m.toNat).tables.1)) (.cons (cq (aU.tables (d:=(el dr m.toNat)) (ae.el iI.ak m.toNat (by omega))) g Tryz.underlying72) (.cons (dz (aU.tables (d:=(el dr m.toNat)) (ae.el iI.ak m.toNat (by omega))) 165 g.toNat) (.cons (aE fun w hw=>P4 w (el (el dr m.toNat).tables g.toNat) (((dv.I.1,oQ).2 m.toNat).tables.2 g.toNat) (bJ (ae.el (aU.tables (d:=(el dr m.toNat)) (ae.el iI.ak m.toNat (by omega))) g.toNat (by omega)) hw) page) (.cons (fY (s:=Instr.build 138 [(0,aa (bR m g)),(1,aa page),(2,aa (aV (el (el dr m.toNat).tables g.toNat) page).1.page),(3,aa (aV (el (el dr m.toNat).tables g.toNat) page).1.bg)].toArray) (v:= .agg [aa (bR m g),aa page,aa (aV (el (el dr m.toNat).tables g.toNat) page).1.page,aa (aV (el (el dr m.toNat).tables g.toNat) page).1.bg].toArray) (fun w=>by kernel_rfl)) .nil)))))) fun ac w β S=>S.cJ (r:=dF av.buf (⟨(bR m g),page,(aV (el (el dr m.toNat).tables g.toNat) page).1.page,(aV (el (el dr m.toNat).tables g.toNat) page).1.bg⟩:aH)) (d:=205) (Qd w av.buf dv.buf (S.rd sC.ak) (⟨(bR m g),page,(aV (el (el dr m.toNat).tables g.toNat) page).1.page,(aV (el (el dr m.toNat).tables g.toNat) page).1.bg⟩:aH) (show fi (⟨(bR m g),page,(aV (el (el dr m.toNat).tables g.toNat) page).1.page,(aV (el (el dr m.toNat).tables g.toNat) page).1.bg⟩:aH) from⟨(Gx m g),hG,(ed.page (d:=(aV (el (el dr m.toNat).tables g.toNat) page).1) i171),(ed.bg (d:=(aV (el (el dr m.toNat).tables g.toNat) page).1) i171)⟩) (by(first|omega|(dsimp only;omega)))) fun ac w N nx xd S up lu d175=>?_
  have d176:=J.w d175 gJ.sub
  have d178:=J.w d175 gv.sub
  have d179:=J.w d175 iI.sub
  replace gJ:=gJ.up up
  replace gv:=gv.up up
  replace iI:=iI.up up
  clear up d175
  refine S.go 5 .nil fun ac w β S=>?_
  refine dI ?_
  let uC:b3:=⟨[(7,.p 0 0),(14,.p 1 0),(22,.p 3 0)],[[R av.mem.length dv.mem.1,R dr.length dv.I.1,R (dF av.buf (⟨(bR m g),page,(aV (el (el dr m.toNat).tables g.toNat) page).1.page,(aV (el (el dr m.toNat).tables g.toNat) page).1.bg⟩:aH)).length nx.1,R av.ag.length dv.ag.1],cg ah,[aa (bR m g),aa page,aa (aV (el (el dr m.toNat).tables g.toNat) page).1.page,aa (aV (el (el dr m.toNat).tables g.toNat) page).1.bg],GT.cells (aV (el (el dr m.toNat).tables g.toNat) page).1 ()]⟩
  obtain⟨bw,bt,bP,S,gJ,gv,iI,lu⟩:∃bw bt bP,aj Tryz.prog Tryz.f112.ntmps w0 F bw bt bP uC ac w/\ad w0 F bw bt xb av.mem dv.mem/\ad w0 F bw bt rM av.ag dv.ag/\ad w0 F bw bt (Or qH xc) dr (dv.I.1,oQ)/\ad w0 F bw bt xd (dF av.buf (⟨(bR m g),page,(aV (el (el dr m.toNat).tables g.toNat) page).1.page,(aV (el (el dr m.toNat).tables g.toNat) page).1.bg⟩:aH)) nx:=⟨_,_,_,S.z,gJ,gv,iI,lu⟩
  refine me (fun ac w=>∃u N β,aj Tryz.prog Tryz.f112.ntmps w0 F u N β (uC.dl [7,22] [(15,.v (aa (aV (el (el dr m.toNat).tables g.toNat) page).1.page)),(16,.v (B true))] 2 [(1,[R av.mem.length dv.mem.1,R dr.length dv.I.1,R (dF av.buf (⟨(bR m g),page,(aV (el (el dr m.toNat).tables g.toNat) page).1.page,(aV (el (el dr m.toNat).tables g.toNat) page).1.bg⟩:aH)).length nx.1,R av.ag.length dv.ag.1])]) ac w/\ad w0 F u N xb av.mem dv.mem/\ad w0 F u N rM av.ag dv.ag/\ad w0 F u N (Or qH xc) dr (dv.I.1,oQ)/\ad w0 F u N xd (dF av.buf (⟨(bR m g),page,(aV (el (el dr m.toNat).tables g.toNat) page).1.page,(aV (el (el dr m.toNat).tables g.toNat) page).1.bg⟩:aH)) nx/\ed (aV (el (el dr m.toNat).tables g.toNat) page).1) ?_ ?_
  ·refine S.dR (f:=6) 3 (by kernel_rfl) (by kernel_rfl) fun w S=>?_
   refine S.a9 0 [0] [] [(207,.v (GT.val (⟨av.mem,dr,(dF av.buf (⟨(bR m g),page,(aV (el (el dr m.toNat).tables g.toNat) page).1.page,(aV (el (el dr m.toNat).tables g.toNat) page).1.bg⟩:aH)),av.ag⟩:ah) (⟨dv.mem,(dv.I.1,oQ),nx,dv.ag⟩:b_)))] .nil fun ac S=>?_
   refine ar.mH fun W aG=>?_
   refine ar.mj (l':=cp 6 [0]) (by kernel_rfl) ?_
   have RP ac w u N β (S:aj Tryz.prog Tryz.f112.ntmps w0 F u N β (uC.dl [7,22] [(15,.v (aa (aV (el (el dr m.toNat).tables g.toNat) page).1.page)),(16,.v (B true))] 4 [(1,[R av.mem.length dv.mem.1,R dr.length dv.I.1,R (dF av.buf (⟨(bR m g),page,(aV (el (el dr m.toNat).tables g.toNat) page).1.page,(aV (el (el dr m.toNat).tables g.toNat) page).1.bg⟩:aH)).length nx.1,R av.ag.length dv.ag.1])]) ac w) (gJ:ad w0 F u N xb av.mem dv.mem) (gv:ad w0 F u N rM av.ag dv.ag) (iI:ad w0 F u N (Or qH xc) dr (dv.I.1,oQ)) (lu:ad w0 F u N xd (dF av.buf (⟨(bR m g),page,(aV (el (el dr m.toNat).tables g.toNat) page).1.page,(aV (el (el dr m.toNat).tables g.toNat) page).1.bg⟩:aH)) nx) (i181:ed (aV (el (el dr m.toNat).tables g.toNat) page).1):W 0 (cp 6 [0,1,2,3,4,5]) ac w:=by
    exact mL aG ⟨rfl,_,_,_,S.z,gJ,gv,iI,lu,i181⟩
   have ad1 ac w u N β (S:aj Tryz.prog Tryz.f112.ntmps w0 F u N β (uC.dl [7,22] [(207,.v (GT.val (⟨av.mem,dr,(dF av.buf (⟨(bR m g),page,(aV (el (el dr m.toNat).tables g.toNat) page).1.page,(aV (el (el dr m.toNat).tables g.toNat) page).1.bg⟩:aH)),av.ag⟩:ah) (⟨dv.mem,(dv.I.1,oQ),nx,dv.ag⟩:b_))),(209,.v (aa (aV (el (el dr m.toNat).tables g.toNat) page).1.page))] 4 []) ac w) (gJ:ad w0 F u N xb av.mem dv.mem) (gv:ad w0 F u N rM av.ag dv.ag) (iI:ad w0 F u N (Or qH xc) dr (dv.I.1,oQ)) (lu:ad w0 F u N xd (dF av.buf (⟨(bR m g),page,(aV (el (el dr m.toNat).tables g.toNat) page).1.page,(aV (el (el dr m.toNat).tables g.toNat) page).1.bg⟩:aH)) nx) (i181:ed (aV (el (el dr m.toNat).tables g.toNat) page).1) (al:d_ bt bw N u) (aP:cR uC.aM.length bP β):W 3 (cp 6 [0,1,2]) ac w:=by
    exact eo aG 3 (S.wl aG [4,5] .nil fun _ _ _ S=>RP _ _ _ _ _ S gJ gv iI lu i181)
   have ad2 ac w u N β (S:aj Tryz.prog Tryz.f112.ntmps w0 F u N β (uC.dl [7,22] [(208,.p 3 0)] 4 [(1,[R av.mem.length dv.mem.1,R dr.length dv.I.1,R (dF av.buf (⟨(bR m g),page,(aV (el (el dr m.toNat).tables g.toNat) page).1.page,(aV (el (el dr m.toNat).tables g.toNat) page).1.bg⟩:aH)).length nx.1,R av.ag.length dv.ag.1])]) ac w) (gJ:ad w0 F u N xb av.mem dv.mem) (gv:ad w0 F u N rM av.ag dv.ag) (iI:ad w0 F u N (Or qH xc) dr (dv.I.1,oQ)) (lu:ad w0 F u N xd (dF av.buf (⟨(bR m g),page,(aV (el (el dr m.toNat).tables g.toNat) page).1.page,(aV (el (el dr m.toNat).tables g.toNat) page).1.bg⟩:aH)) nx) (i181:ed (aV (el (el dr m.toNat).tables g.toNat) page).1):W 3 (cp 6 [0,1,3]) ac w:=by
    exact eo aG 2 (S.wl aG [4,5] .nil fun _ _ _ S=>RP _ _ _ _ _ S gJ gv iI lu i181)
   have ad3 ac w u N β (S:aj Tryz.prog Tryz.f112.ntmps w0 F u N β (uC.dl [7,22] [(207,.v (GT.val (⟨av.mem,dr,(dF av.buf (⟨(bR m g),page,(aV (el (el dr m.toNat).tables g.toNat) page).1.page,(aV (el (el dr m.toNat).tables g.toNat) page).1.bg⟩:aH)),av.ag⟩:ah) (⟨dv.mem,(dv.I.1,oQ),nx,dv.ag⟩:b_))),(208,.p 3 0)] 4 []) ac w) (gJ:ad w0 F u N xb av.mem dv.mem) (gv:ad w0 F u N rM av.ag dv.ag) (iI:ad w0 F u N (Or qH xc) dr (dv.I.1,oQ)) (lu:ad w0 F u N xd (dF av.buf (⟨(bR m g),page,(aV (el (el dr m.toNat).tables g.toNat) page).1.page,(aV (el (el dr m.toNat).tables g.toNat) page).1.bg⟩:aH)) nx) (al:d_ bt bw N u) (aP:cR uC.aM.length bP β):W 4 (cp 6 [0,1]) ac w:=by
    exact gA aG 2 3 (S.e_ aG al aP [] .nil fun _ _ _ S cb=>ad1 _ _ _ _ _ S gJ gv iI lu i171 al cb) (S.wl aG [] .nil fun _ _ _ S=>ad2 _ _ _ _ _ S gJ gv iI lu i171)
   rw [aG]
   exact S.cX aG [1] (fun _=>S.um) fun _ S=>ad3 _ _ _ _ _ S gJ gv iI lu (fun _ h=>⟨h,rfl⟩) (fun _ _=>rfl)
  clear S gJ gv iI lu
  rintro ac w ⟨u,N,β,S,gJ,gv,iI,lu,i181⟩
  refine S.ex fun S=>?_
  refine S.bo 2 .nil [GT.val (⟨av.mem,dr,(dF av.buf (⟨(bR m g),page,(aV (el (el dr m.toNat).tables g.toNat) page).1.page,(aV (el (el dr m.toNat).tables g.toNat) page).1.bg⟩:aH)),av.ag⟩:ah) (⟨dv.mem,(dv.I.1,oQ),nx,dv.ag⟩:b_),aa (aV (el (el dr m.toNat).tables g.toNat) page).1.page,B true] fun ac w β S=>?_
  have iW:=fs (x:=(⟨av.mem,dr,(dF av.buf (⟨(bR m g),page,(aV (el (el dr m.toNat).tables g.toNat) page).1.page,(aV (el (el dr m.toNat).tables g.toNat) page).1.bg⟩:aH)),av.ag⟩:ah)) (p:=(⟨dv.mem,(dv.I.1,oQ),nx,dv.ag⟩:b_)) gJ iI lu gv (J.symm (J.or (J.symm d131) (J.symm d158))) d176 d133 d179 (J.symm (J.symm (J.or d135 (J.symm d160)))) (J.symm d178)
  exact Cr S (show(cN h m g page need false).1=(⟨av.mem,dr,(dF av.buf (⟨(bR m g),page,(aV (el (el dr m.toNat).tables g.toNat) page).1.page,(aV (el (el dr m.toNat).tables g.toNat) page).1.bg⟩:aH)),av.ag⟩:ah) from nh) (show(cN h m g page need false).2.1=(aV (el (el dr m.toNat).tables g.toNat) page).1.page from nh) (show(cN h m g page need false).2.2=true from nh) rfl iW (ed.page (d:=(aV (el (el dr m.toNat).tables g.toNat) page).1) i181) acF
 obtain⟨adl,adm⟩:=n4 RF
 obtain⟨adn,ado⟩:=n4 adl
 have aoB:=b9 adn
 have aoc:¬((aV (el (el aL m.toNat).tables g.toNat) page).1.page=(-1)):=ne_of_beq_false ado
 have adp:=b9 adm
 have aod:=qU adp
 refine S.go 26 (.cons (fY (s:=Instr.build 138 [(0,aa (bR m g)),(1,aa page),(2,aa (aV (el (el aL m.toNat).tables g.toNat) page).1.page),(3,aa (aV (el (el aL m.toNat).tables g.toNat) page).1.bg)].toArray) (v:= .agg [aa (bR m g),aa page,aa (aV (el (el aL m.toNat).tables g.toNat) page).1.page,aa (aV (el (el aL m.toNat).tables g.toNat) page).1.bg].toArray) (fun w=>by kernel_rfl)) .nil) fun ac w β S=>S.cJ (r:=dF h.buf (⟨(bR m g),page,(aV (el (el aL m.toNat).tables g.toNat) page).1.page,(aV (el (el aL m.toNat).tables g.toNat) page).1.bg⟩:aH)) (d:=205) (Qd w h.buf ai.buf (S.rd bO.ak) (⟨(bR m g),page,(aV (el (el aL m.toNat).tables g.toNat) page).1.page,(aV (el (el aL m.toNat).tables g.toNat) page).1.bg⟩:aH) (show fi (⟨(bR m g),page,(aV (el (el aL m.toNat).tables g.toNat) page).1.page,(aV (el (el aL m.toNat).tables g.toNat) page).1.bg⟩:aH) from⟨(Gx m g),hG,(ed.page (d:=(aV (el (el aL m.toNat).tables g.toNat) page).1) i105),(ed.bg (d:=(aV (el (el aL m.toNat).tables g.toNat) page).1) i105)⟩) (by(first|omega|(dsimp only;omega)))) fun ac w N ny xe S up kK d198=>?_
 have d199:=J.w d198 bK.sub
 have d201:=J.w d198 bq.sub
 have d202:=J.w d198 e8.sub
 replace bK:=bK.up up
 replace bq:=bq.up up
 replace e8:=e8.up up
 clear up d198
 refine S.go 5 .nil fun ac w β S=>?_
 refine dI ?_
 let uE:b3:=⟨[(7,.p 0 0),(14,.p 1 0),(22,.p 3 0)],[[R h.mem.length ai.mem.1,R aL.length fW.1,R (dF h.buf (⟨(bR m g),page,(aV (el (el aL m.toNat).tables g.toNat) page).1.page,(aV (el (el aL m.toNat).tables g.toNat) page).1.bg⟩:aH)).length ny.1,R h.ag.length ai.ag.1],cg ah,[aa (bR m g),aa page,aa (aV (el (el aL m.toNat).tables g.toNat) page).1.page,aa (aV (el (el aL m.toNat).tables g.toNat) page).1.bg],GT.cells (aV (el (el aL m.toNat).tables g.toNat) page).1 ()]⟩
 obtain⟨bw,bt,bP,S,bK,bq,e8,kK⟩:∃bw bt bP,aj Tryz.prog Tryz.f112.ntmps w0 F bw bt bP uE ac w/\ad w0 F bw bt cd h.mem ai.mem/\ad w0 F bw bt dY h.ag ai.ag/\ad w0 F bw bt ku aL fW/\ad w0 F bw bt xe (dF h.buf (⟨(bR m g),page,(aV (el (el aL m.toNat).tables g.toNat) page).1.page,(aV (el (el aL m.toNat).tables g.toNat) page).1.bg⟩:aH)) ny:=⟨_,_,_,S.z,bK,bq,e8,kK⟩
 refine me (fun ac w=>∃u N β,aj Tryz.prog Tryz.f112.ntmps w0 F u N β (uE.dl [7,22] [(15,.v (aa (aV (el (el aL m.toNat).tables g.toNat) page).1.page)),(16,.v (B true))] 2 [(1,[R h.mem.length ai.mem.1,R aL.length fW.1,R (dF h.buf (⟨(bR m g),page,(aV (el (el aL m.toNat).tables g.toNat) page).1.page,(aV (el (el aL m.toNat).tables g.toNat) page).1.bg⟩:aH)).length ny.1,R h.ag.length ai.ag.1])]) ac w/\ad w0 F u N cd h.mem ai.mem/\ad w0 F u N dY h.ag ai.ag/\ad w0 F u N ku aL fW/\ad w0 F u N xe (dF h.buf (⟨(bR m g),page,(aV (el (el aL m.toNat).tables g.toNat) page).1.page,(aV (el (el aL m.toNat).tables g.toNat) page).1.bg⟩:aH)) ny/\ed (aV (el (el aL m.toNat).tables g.toNat) page).1) ?_ ?_
 ·refine S.dR (f:=6) 3 (by kernel_rfl) (by kernel_rfl) fun w S=>?_
  refine S.a9 0 [0] [] [(207,.v (GT.val (⟨h.mem,aL,(dF h.buf (⟨(bR m g),page,(aV (el (el aL m.toNat).tables g.toNat) page).1.page,(aV (el (el aL m.toNat).tables g.toNat) page).1.bg⟩:aH)),h.ag⟩:ah) (⟨ai.mem,fW,ny,ai.ag⟩:b_)))] .nil fun ac S=>?_
  refine ar.mH fun W aG=>?_
  refine ar.mj (l':=cp 6 [0]) (by kernel_rfl) ?_
  have Em ac w u N β (S:aj Tryz.prog Tryz.f112.ntmps w0 F u N β (uE.dl [7,22] [(15,.v (aa (aV (el (el aL m.toNat).tables g.toNat) page).1.page)),(16,.v (B true))] 4 [(1,[R h.mem.length ai.mem.1,R aL.length fW.1,R (dF h.buf (⟨(bR m g),page,(aV (el (el aL m.toNat).tables g.toNat) page).1.page,(aV (el (el aL m.toNat).tables g.toNat) page).1.bg⟩:aH)).length ny.1,R h.ag.length ai.ag.1])]) ac w) (bK:ad w0 F u N cd h.mem ai.mem) (bq:ad w0 F u N dY h.ag ai.ag) (e8:ad w0 F u N ku aL fW) (kK:ad w0 F u N xe (dF h.buf (⟨(bR m g),page,(aV (el (el aL m.toNat).tables g.toNat) page).1.page,(aV (el (el aL m.toNat).tables g.toNat) page).1.bg⟩:aH)) ny) (i204:ed (aV (el (el aL m.toNat).tables g.toNat) page).1):W 0 (cp 6 [0,1,2,3,4,5]) ac w:=by
   exact mL aG ⟨rfl,_,_,_,S.z,bK,bq,e8,kK,i204⟩
  have ad7 ac w u N β (S:aj Tryz.prog Tryz.f112.ntmps w0 F u N β (uE.dl [7,22] [(207,.v (GT.val (⟨h.mem,aL,(dF h.buf (⟨(bR m g),page,(aV (el (el aL m.toNat).tables g.toNat) page).1.page,(aV (el (el aL m.toNat).tables g.toNat) page).1.bg⟩:aH)),h.ag⟩:ah) (⟨ai.mem,fW,ny,ai.ag⟩:b_))),(209,.v (aa (aV (el (el aL m.toNat).tables g.toNat) page).1.page))] 4 []) ac w) (bK:ad w0 F u N cd h.mem ai.mem) (bq:ad w0 F u N dY h.ag ai.ag) (e8:ad w0 F u N ku aL fW) (kK:ad w0 F u N xe (dF h.buf (⟨(bR m g),page,(aV (el (el aL m.toNat).tables g.toNat) page).1.page,(aV (el (el aL m.toNat).tables g.toNat) page).1.bg⟩:aH)) ny) (i204:ed (aV (el (el aL m.toNat).tables g.toNat) page).1) (al:d_ bt bw N u) (aP:cR uE.aM.length bP β):W 3 (cp 6 [0,1,2]) ac w:=by
   exact eo aG 3 (S.wl aG [4,5] .nil fun _ _ _ S=>Em _ _ _ _ _ S bK bq e8 kK i204)
  have ad8 ac w u N β (S:aj Tryz.prog Tryz.f112.ntmps w0 F u N β (uE.dl [7,22] [(208,.p 3 0)] 4 [(1,[R h.mem.length ai.mem.1,R aL.length fW.1,R (dF h.buf (⟨(bR m g),page,(aV (el (el aL m.toNat).tables g.toNat) page).1.page,(aV (el (el aL m.toNat).tables g.toNat) page).1.bg⟩:aH)).length ny.1,R h.ag.length ai.ag.1])]) ac w) (bK:ad w0 F u N cd h.mem ai.mem) (bq:ad w0 F u N dY h.ag ai.ag) (e8:ad w0 F u N ku aL fW) (kK:ad w0 F u N xe (dF h.buf (⟨(bR m g),page,(aV (el (el aL m.toNat).tables g.toNat) page).1.page,(aV (el (el aL m.toNat).tables g.toNat) page).1.bg⟩:aH)) ny) (i204:ed (aV (el (el aL m.toNat).tables g.toNat) page).1):W 3 (cp 6 [0,1,3]) ac w:=by
   exact eo aG 2 (S.wl aG [4,5] .nil fun _ _ _ S=>Em _ _ _ _ _ S bK bq e8 kK i204)
  have ad9 ac w u N β (S:aj Tryz.prog Tryz.f112.ntmps w0 F u N β (uE.dl [7,22] [(207,.v (GT.val (⟨h.mem,aL,(dF h.buf (⟨(bR m g),page,(aV (el (el aL m.toNat).tables g.toNat) page).1.page,(aV (el (el aL m.toNat).tables g.toNat) page).1.bg⟩:aH)),h.ag⟩:ah) (⟨ai.mem,fW,ny,ai.ag⟩:b_))),(208,.p 3 0)] 4 []) ac w) (bK:ad w0 F u N cd h.mem ai.mem) (bq:ad w0 F u N dY h.ag ai.ag) (e8:ad w0 F u N ku aL fW) (kK:ad w0 F u N xe (dF h.buf (⟨(bR m g),page,(aV (el (el aL m.toNat).tables g.toNat) page).1.page,(aV (el (el aL m.toNat).tables g.toNat) page).1.bg⟩:aH)) ny) (al:d_ bt bw N u) (aP:cR uE.aM.length bP β):W 4 (cp 6 [0,1]) ac w:=by
   exact gA aG 2 3 (S.e_ aG al aP [] .nil fun _ _ _ S cb=>ad7 _ _ _ _ _ S bK bq e8 kK i105 al cb) (S.wl aG [] .nil fun _ _ _ S=>ad8 _ _ _ _ _ S bK bq e8 kK i105)
  rw [aG]
  exact S.cX aG [1] (fun _=>S.um) fun _ S=>ad9 _ _ _ _ _ S bK bq e8 kK (fun _ h=>⟨h,rfl⟩) (fun _ _=>rfl)
 clear S bK bq e8 kK
 rintro ac w ⟨u,N,β,S,bK,bq,e8,kK,i204⟩
 refine S.ex fun S=>?_
 refine S.bo 2 .nil [GT.val (⟨h.mem,aL,(dF h.buf (⟨(bR m g),page,(aV (el (el aL m.toNat).tables g.toNat) page).1.page,(aV (el (el aL m.toNat).tables g.toNat) page).1.bg⟩:aH)),h.ag⟩:ah) (⟨ai.mem,fW,ny,ai.ag⟩:b_),aa (aV (el (el aL m.toNat).tables g.toNat) page).1.page,B true] fun ac w β S=>?_
 have ahP:=fs (x:=(⟨h.mem,aL,(dF h.buf (⟨(bR m g),page,(aV (el (el aL m.toNat).tables g.toNat) page).1.page,(aV (el (el aL m.toNat).tables g.toNat) page).1.bg⟩:aH)),h.ag⟩:ah)) (p:=(⟨ai.mem,fW,ny,ai.ag⟩:b_)) bK e8 kK bq d89 d199 d15 d202 (J.symm d91) (J.symm d201)
 exact Cr S (show(cN h m g page need false).1=(⟨h.mem,aL,(dF h.buf (⟨(bR m g),page,(aV (el (el aL m.toNat).tables g.toNat) page).1.page,(aV (el (el aL m.toNat).tables g.toNat) page).1.bg⟩:aH)),h.ag⟩:ah) from nh) (show(cN h m g page need false).2.1=(aV (el (el aL m.toNat).tables g.toNat) page).1.page from nh) (show(cN h m g page need false).2.2=true from nh) rfl ahP (ed.page (d:=(aV (el (el aL m.toNat).tables g.toNat) page).1) i204) yd
theorem ZW (w0:World) (page:Int) (hG:a_ page) (write:Bool):Calls Tryz.prog 116 [aa page,B write].toArray w0 (fun e w'=>e= .returned (GT.val (gY page write) ())/\bB ab w0 w'):=by
 refine Calls.run ab Tryz.func116 ?_
 intro ac β S
 have yE:=hG.lo;have yw:=hG.hi
 exact S.aq 14 (.cons (fY (s:=Instr.build 68 [(0,aa 1),(1,aa page),(2,B write)].toArray) (v:= .agg [aa 1,aa page,B write,aa 0].toArray) (fun w=>by kernel_rfl)) .nil) [GT.val (⟨1,page,write,0⟩:dg) ()] (hX (p:=()) (by clear S;rfl))
theorem z3 (w0:World) (g:ax) (bf:c5) (aJ:bQ w0 g bf) (e:dg) (he:fL e):Calls Tryz.prog 115 [GT.val g bf,GT.val e ()].toArray w0 (dw ab w0 (({g with exit:=e}:ax):ax)):=by
 refine Calls.run ab Tryz.func115 ?_
 intro ac β S
 have iE:g.prog.length<=4194304:=ae.le (az.prog (d:=g) aJ)
 have iG:g.written.length<=4194304:=ae.le (az.written (d:=g) aJ)
 have iD:g.live.length<=4194304:=ae.le (az.live (d:=g) aJ)
 have iF:g.seen.length<=4194304:=ae.le (az.seen (d:=g) aJ)
 refine S.go 10 .nil fun ac w β S=>S.cJ (r:=g) (d:=6) (uV w g bf (S.rd (S.arg aJ))) fun ac w N af br S up aA d4=>?_
 clear up d4
 have i8:a_ g.acc:=az.acc (d:=g) aA.ak
 have i9:a_ g.aw:=az.aw (d:=g) aA.ak
 have i16:hz g.aN:=az.aN (d:=g) aA.ak
 have i17:a_ g.aC:=az.aC (d:=g) aA.ak
 obtain⟨dU,dY,gf,kr,bL,bq,c3,dK,_,_,_,_,d22,d23,d24,d25,d26,d27⟩:=mP aA
 refine S.bo 17 .nil [GT.val (⟨g.prog,g.acc,g.aw,g.written,g.live,g.aN,g.aC,e,g.halted,g.seen⟩:ax) (⟨af.prog,af.written,af.live,af.seen⟩:c5)] fun ac w β S=>?_
 have g9:=hK (x:=(⟨g.prog,g.acc,g.aw,g.written,g.live,g.aN,g.aC,e,g.halted,g.seen⟩:ax)) (p:=(⟨af.prog,af.written,af.live,af.seen⟩:c5)) bL bq c3 dK d22 d23 d24 d25 d26 d27 i8 i9 i16 i17 he
 exact cy S (show({g with exit:=e}:ax)=(⟨g.prog,g.acc,g.aw,g.written,g.live,g.aN,g.aC,e,g.halted,g.seen⟩:ax) by clear S;rfl) rfl g9
theorem TP {p:Prop} (h:p:=by clear S;(first|(unfold ds;rw [if_pos (by omega)];done)|(unfold ds;rw [if_pos (by omega)];first|rfl|(simp;done))|(unfold ds;rw [if_neg (by omega)];done)|(unfold ds;rw [if_neg (by omega)];first|rfl|(simp;done)))):p:=h
theorem P2 (w0:World) (addr:Int) (oC:a_ addr):Calls Tryz.prog 118 [aa addr].toArray w0 (fun e w'=>e= .returned (aa (ds addr))/\bB ab w0 w'):=by
 refine Calls.run ab Tryz.func118 ?_
 intro ac β S
 have J7:=oC.lo;have JO:=oC.hi
 refine S.aI 12 .nil (decide (addr<0)) (fun ac w β h1 a8 S=>?_) (fun ac w β h1 a8 S=>?_)
 ·exact S.aq 7 .nil [aa (-1)] (b4 TP)
 exact S.aq 11 (.cons (o3 (x:=addr) (y:=4) (by decide)) .nil) [aa (Int.tmod addr 4)] (b4 TP)
theorem T3 {p:Prop} (h:p:=by clear S;(unfold x2;(repeat' split)<;>first|rfl|(rw [Bool.eq_iff_iff];simp [a3];omega)|(rw [Bool.eq_iff_iff];simp_all;omega))):p:=h
theorem Qi (w0:World) (m:List (List Int)) (pm:aD (List Int)) (hm:bQ w0 m pm) (page:Int) (cell:Int):Calls Tryz.prog 229 [R m.length pm.1,aa page,aa cell].toArray w0 (fun e w'=>e= .returned (B (x2 m page cell))/\bB ab w0 w'):=by
 refine Calls.run ab Tryz.func229 ?_
 intro ac β S
 have q6:m.length<=4194304:=ae.le hm
 refine S.bd 13 (.cons (hf (m.length:Int) 1) (.cons (aE fun w hw=>fE w page 0 ((m.length:Int)-1)) .nil)) (a3 page 0 ((m.length:Int)-1)) (fun ac w β h1 S=>?_) (fun ac w β h1 S=>?_)
 ·have a8:=cV h1
  have p0:(el m page.toNat).length<=4194304:=ae.le (ae.el (S.arg hm) page.toNat (by omega))
  exact S.aq 13 (.cons (cq (S.arg hm) page Tryz.underlying22) (.cons (cj (S.arg hm) 38 page.toNat) (.cons (hf ((el m page.toNat).length:Int) 1) (.cons (aE fun w hw=>fE w cell 0 (((el m page.toNat).length:Int)-1)) .nil)))) [B (a3 cell 0 (((el m page.toNat).length:Int)-1))] (a6 T3)
 have cC:=dn h1
 exact S.aq 13 .nil [B false] (a6 T3)
theorem K4 {p:Prop} (h:p:=by clear S;(unfold gh;(repeat' split)<;>first|rfl|(simp;done)|(exfalso;omega)|(exfalso;simp_all;done)|(exfalso;simp_all;omega))):p:=h
theorem aaj (w0:World) (m:List (List Int)) (pm:aD (List Int)) (hm:bQ w0 m pm) (page:Int) (cell:Int) (v:Int) (b2:a_ v):Calls Tryz.prog 117 [R m.length pm.1,aa page,aa cell,aa v].toArray w0 (dw ab w0 (gh m page cell v:List (List Int))):=by
 refine Calls.run ab Tryz.func117 ?_
 intro ac β S
 have q6:m.length<=4194304:=ae.le hm
 have J8:=b2.lo;have JP:=b2.hi
 refine S.go 8 .nil fun ac w β S=>S.cJ (r:=m) (d:=11) (p4 w m pm (S.rd (S.arg hm))) fun ac w N af br S up aA d4=>?_
 clear up d4
 refine S.bd 11 (.cons (aE fun w hw=>Qi w m pm (bJ (S.arg hm) hw) page cell) .nil) (x2 m page cell) (fun ac w β bm S=>?_) (fun ac w β bm S=>?_)
 ·have c6:=Sn bm
  refine S.bd 5 (.cons (aE fun w hw=>fE w v 0 99) .nil) (a3 v 0 99) (fun ac w β cE S=>?_) (fun ac w β cE S=>?_)
  ·have fl:=cV cE
   obtain⟨bV,nj,_,XA⟩:=vc aA (k:=page.toNat) (show page.toNat<m.length by omega)
   have apr:=ae.le nj.ak
   have wx:=nj.sub
   refine S.go 9 (.cons (cq aA.ak page Tryz.underlying22) (.cons (cj aA.ak 38 page.toNat) (.cons (cq (ae.el aA.ak page.toNat (by omega)) cell Tryz.underlying38) .nil))) fun ac w β S=>S.fQ (α:=Int) nj (t:=3) (k:=cell.toNat) (j:=0) (off:=(af.2 page.toNat).1.off+cell.toNat*1) (v:=aa v) (y:=v) (q:=()) (fun _ _ _=>⟨ab,b2,fun _ h=>False.elim h⟩) fun w N pU wL S up ba d18 ajX Ly=>?_
   clear d18 nj
   obtain⟨aqr,fr,Pc⟩:=XA _ _ _ _ _ ab up ba ajX (fun b _ h=>False.elim h) (by show [R _ _]=[R _ _];rw [List.length_set]) (fun b h=>Ly b (wx b h))
   clear up ba Ly
   have Lc:(m.set page.toNat ((el m page.toNat).set cell.toNat v)).length=m.length:=List.length_set
   refine S.bo 9 .nil [R m.length af.1] fun ac w β S=>?_
   exact cy S (show gh m page cell v=(m.set page.toNat ((el m page.toNat).set cell.toNat v)) from K4) (by rw [show m.length=(m.set page.toNat ((el m page.toNat).set cell.toNat v)).length from(by omega)];rfl) fr
  have jF:=dn cE
  refine S.bo 10 .nil [R m.length af.1] fun ac w β S=>?_
  exact cy S (show gh m page cell v=m from K4) rfl aA
 have qe:=Sm bm
 refine S.bo 15 .nil [R m.length af.1] fun ac w β S=>?_
 exact cy S (show gh m page cell v=m from K4) rfl aA
theorem aae (w0:World) (g:ax) (bf:c5) (aJ:bQ w0 g bf):Calls Tryz.prog 119 [GT.val g bf].toArray w0 (dw ab w0 (a5 g:ax)):=by
 refine Calls.run ab Tryz.func119 ?_
 intro ac β S
 have iE:g.prog.length<=4194304:=ae.le (az.prog (d:=g) aJ)
 have iG:g.written.length<=4194304:=ae.le (az.written (d:=g) aJ)
 have iD:g.live.length<=4194304:=ae.le (az.live (d:=g) aJ)
 have iF:g.seen.length<=4194304:=ae.le (az.seen (d:=g) aJ)
 refine S.go 9 .nil fun ac w β S=>S.cJ (r:=a5 g) (d:=4) (p3 w g bf (S.rd (S.arg aJ))) fun ac w N af br S up aA d4=>?_
 clear up d4
 refine S.bo 4 .nil [GT.val (a5 g) af] fun ac w β S=>?_
 exact cy S (show a5 g=(a5 g) by clear S;rfl) rfl aA
theorem TT {p:Prop} (h:p:=by clear S;(first|(unfold fI;rw [if_pos (by omega)];done)|(unfold fI;rw [if_pos (by omega)];first|rfl|(simp;done))|(unfold fI;rw [if_neg (by omega)];done)|(unfold fI;rw [if_neg (by omega)];first|rfl|(simp;done)))):p:=h
theorem ZR (w0:World) (m:List (List Int)) (pm:aD (List Int)) (hm:bQ w0 m pm) (page:Int) (cell:Int):Calls Tryz.prog 121 [R m.length pm.1,aa page,aa cell].toArray w0 (fun e w'=>e= .returned (aa (fI m page cell))/\bB ab w0 w'):=by
 refine Calls.run ab Tryz.func121 ?_
 intro ac β S
 have q6:m.length<=4194304:=ae.le hm
 refine S.bd 15 (.cons (aE fun w hw=>Qi w m pm (bJ (S.arg hm) hw) page cell) .nil) (!(x2 m page cell)) (fun ac w β h1 S=>?_) (fun ac w β h1 S=>?_)
 ·have an:=cm h1
  have b7:=Sm an
  exact S.aq 7 .nil [aa 0] (b4 TT)
 have b1:=b9 h1
 have dJ:=Sn b1
 exact S.aq 16 (.cons (cq (S.arg hm) page Tryz.underlying22) (.cons (cj (S.arg hm) 38 page.toNat) (.cons (cq (ae.el (S.arg hm) page.toNat (by omega)) cell Tryz.underlying38) (.cons (cj (ae.el (S.arg hm) page.toNat (by omega)) 3 cell.toNat) .nil)))) [aa (el (el m page.toNat) cell.toNat)] (b4 TT)
theorem Z6 (w0:World) (g:ax) (bf:c5) (aJ:bQ w0 g bf) (v:Int) (b2:a_ v):Calls Tryz.prog 120 [GT.val g bf,aa v].toArray w0 (dw ab w0 (ia g v:ax)):=by
 refine Calls.run ab Tryz.func120 ?_
 intro ac β S
 have iE:g.prog.length<=4194304:=ae.le (az.prog (d:=g) aJ)
 have iG:g.written.length<=4194304:=ae.le (az.written (d:=g) aJ)
 have iD:g.live.length<=4194304:=ae.le (az.live (d:=g) aJ)
 have iF:g.seen.length<=4194304:=ae.le (az.seen (d:=g) aJ)
 have J8:=b2.lo;have JP:=b2.hi
 refine S.go 17 .nil fun ac w β S=>S.cJ (r:=g7 (⟨g.prog,v,g.aw,g.written,g.live,g.aN,g.aC,g.exit,g.halted,g.seen⟩:ax) v) (d:=9) (Qe w (⟨g.prog,v,g.aw,g.written,g.live,g.aN,g.aC,g.exit,g.halted,g.seen⟩:ax) (⟨bf.prog,bf.written,bf.live,bf.seen⟩:c5) (S.rd (show GT.rd b6 _ _ (⟨g.prog,v,g.aw,g.written,g.live,g.aN,g.aC,g.exit,g.halted,g.seen⟩:ax) (⟨bf.prog,bf.written,bf.live,bf.seen⟩:c5) from⟨(az.prog (p:=bf) (d:=g) (S.arg aJ)),b2,(az.aw (d:=g) (S.arg aJ)),(az.written (p:=bf) (d:=g) (S.arg aJ)),(az.live (p:=bf) (d:=g) (S.arg aJ)),(az.aN (d:=g) (S.arg aJ)),(az.aC (d:=g) (S.arg aJ)),(az.exit (d:=g) (S.arg aJ)),(az.seen (p:=bf) (d:=g) (S.arg aJ))⟩)) v b2) fun ac w N af br S up aA d4=>?_
 clear up d4
 refine S.cJ (r:=a5 (g7 (⟨g.prog,v,g.aw,g.written,g.live,g.aN,g.aC,g.exit,g.halted,g.seen⟩:ax) v)) (d:=10) (p3 w (g7 (⟨g.prog,v,g.aw,g.written,g.live,g.aN,g.aC,g.exit,g.halted,g.seen⟩:ax) v) af (S.rd aA.ak)) fun ac w N bM cT S up ao d8=>?_
 clear up d8
 refine S.bo 4 .nil [GT.val (a5 (g7 (⟨g.prog,v,g.aw,g.written,g.live,g.aN,g.aC,g.exit,g.halted,g.seen⟩:ax) v)) bM] fun ac w β S=>?_
 exact cy S (show ia g v=(a5 (g7 (⟨g.prog,v,g.aw,g.written,g.live,g.aN,g.aC,g.exit,g.halted,g.seen⟩:ax) v)) by clear S;rfl) rfl ao
theorem K7 {p:Prop} (h:p:=by clear S;(first|exact akN (by assumption) (by assumption) (by assumption)|exact akO (by assumption) (by assumption) (by assumption) (by assumption)|exact akM (by assumption) (by assumption) (by assumption) (by assumption))):p:=h
theorem aat (w0:World) (h:ah) (ai:b_) (F:au) (aX:GT.own b6 F w0 h ai) (eT:∀b,F b->b<w0.heap.size) (m:Int) (g:Int) (write:Bool) (fC:(0<=m/\m<h.I.length)/\0<=g/\g<(el h.I m.toNat).U.length) (gU:mr h m g=true):Calls Tryz.prog 33 [GT.val h ai,aa m,aa g,GT.val (el (el h.I m.toNat).U g.toNat) ((ai.I.2 m.toNat).U.2 g.toNat),B write].toArray w0 (uN F F w0 (mu h m g (el (el h.I m.toNat).U g.toNat) write:ah)):=by
 refine Calls.run F Tryz.func33 ?_
 intro ac β S
 have eg:ad w0 F w0 (fc w0.heap.size) F h ai:=⟨aX,eT,fun b hb=> .inr hb⟩
 obtain⟨cd,fg,fa,dY,bK,bX,bO,bq,_,_,_,_,d13,d14,d15,d16,d17,d18⟩:=jR eg
 refine S.go 15 (.cons (aE fun w hw=>ZO w (el (el h.I m.toNat).U g.toNat) ((ai.I.2 m.toNat).U.2 g.toNat) (bJ (kn bX (by clear S;first|rfl|exact pF (by assumption)) ((df.g3 _) m.toNat) (by omega) (by omega)) hw)) .nil) fun ac w β S=>?_
 refine dI ?_
 let s3:b3:=⟨[(1,.v (aa m)),(2,.v (aa g)),(4,.v (B write)),(5,.p 0 0),(8,.p 1 0),(10,.p 2 0),(11,.v (aa (bn (el (el h.I m.toNat).U g.toNat))))],[[R h.mem.length ai.mem.1,R h.I.length ai.I.1,R h.buf.length ai.buf.1,R h.ag.length ai.ag.1],GT.cells (el (el h.I m.toNat).U g.toNat) ((ai.I.2 m.toNat).U.2 g.toNat),cg ah]⟩
 obtain⟨bw,bt,bP,S,bK,bX,bO,bq⟩:∃bw bt bP,aj Tryz.prog Tryz.f33.ntmps w0 F bw bt bP s3 ac w/\ad w0 F bw bt cd h.mem ai.mem/\ad w0 F bw bt fg h.I ai.I/\ad w0 F bw bt fa h.buf ai.buf/\ad w0 F bw bt dY h.ag ai.ag:=⟨_,_,_,S.z,bK,bX,bO,bq⟩
 obtain⟨av,hq⟩:∃z,z=(cN h m g (ct (bn (el (el h.I m.toNat).U g.toNat))) (dD write) false).1:=⟨_,rfl⟩
 have af6:=Ll hq (by assumption)
 try dsimp only at af6
 refine me (fun ac w=>∃iM iR gV gg kT oc e5 od u N β,aj Tryz.prog Tryz.f33.ntmps w0 F u N β (s3.dl [] [(12,.v (aa (cN h m g (ct (bn (el (el h.I m.toNat).U g.toNat))) (dD write) false).2.1)),(13,.v (B (cN h m g (ct (bn (el (el h.I m.toNat).U g.toNat))) (dD write) false).2.2))] 3 [(0,[R av.mem.length kT.1,R av.I.length e5.1,R av.buf.length iM.1,R av.ag.length gV.1])]) ac w/\ad w0 F u N iR av.buf iM/\ad w0 F u N gg av.ag gV/\ad w0 F u N oc av.mem kT/\ad w0 F u N od av.I e5/\J iR gg/\J iR oc/\J iR od/\J gg oc/\J gg od/\J oc od/\a_ (cN h m g (ct (bn (el (el h.I m.toNat).U g.toNat))) (dD write) false).2.1/\df ai.I.2 e5.2) ?_ ?_
 ·refine S.dR (f:=17) 9 (by kernel_rfl) (by kernel_rfl) fun w S=>?_
  refine S.a9 0 [0] [] [(17,.v (GT.val h ai))] .nil fun ac S=>?_
  refine S.a9 1 [2,1] [] [(18,.p 0 2)] .nil fun ac S=>?_
  refine S.hm 12 [2,3,4] [] [(19,.v (R h.buf.length ai.buf.1)),(20,.v (aa m)),(21,.v (aa g))] .nil fun ac S=>?_
  refine S.a9 5 [6,5] [] [(22,.v (aa (bn (el (el h.I m.toNat).U g.toNat))))] .nil fun ac S=>?_
  refine S.a9 7 [8,7] [] [(24,.v (B write))] .nil fun ac S=>?_
  refine ar.mH fun W aG=>?_
  refine ar.mj (l':=cp 17 [0,1,2,3,4,5,7]) (by kernel_rfl) ?_
  have ael ac w iM iR gV gg kT oc e5 od u N β (S:aj Tryz.prog Tryz.f33.ntmps w0 F u N β (s3.dl [] [(12,.v (aa (cN h m g (ct (bn (el (el h.I m.toNat).U g.toNat))) (dD write) false).2.1)),(13,.v (B (cN h m g (ct (bn (el (el h.I m.toNat).U g.toNat))) (dD write) false).2.2))] 3 [(0,[R av.mem.length kT.1,R av.I.length e5.1,R av.buf.length iM.1,R av.ag.length gV.1])]) ac w) (gk:ad w0 F u N iR av.buf iM) (gM:ad w0 F u N gg av.ag gV) (hW:ad w0 F u N oc av.mem kT) (fM:ad w0 F u N od av.I e5) (d100:J iR gg) (d101:J iR oc) (d102:J iR od) (d103:J gg oc) (d104:J gg od) (d105:J oc od) (i86:a_ (cN h m g (ct (bn (el (el h.I m.toNat).U g.toNat))) (dD write) false).2.1) (yl:df ai.I.2 e5.2):W 0 (cp 17 [0,1,2,3,4,5,6,7,8,9,10,11,12,13,14,15,16]) ac w:=by
   exact mL aG ⟨rfl,iM,iR,gV,gg,kT,oc,e5,od,_,_,_,S.z,gk,gM,hW,fM,d100,d101,d102,d103,d104,d105,i86,yl⟩
  have adP ac w Cn rO No zD Cm xm F_ xn u N β (S:aj Tryz.prog Tryz.f33.ntmps w0 F u N β (s3.dl [] [(27,.v (GT.val av (⟨Cm,F_,Cn,No⟩:b_))),(28,.v (aa (cN h m g (ct (bn (el (el h.I m.toNat).U g.toNat))) (dD write) false).2.1)),(29,.v (B (cN h m g (ct (bn (el (el h.I m.toNat).U g.toNat))) (dD write) false).2.2))] 3 []) ac w) (rq:ad w0 F u N rO av.buf Cn) (nm:ad w0 F u N zD av.ag No) (aii:ad w0 F u N xm av.mem Cm) (Mj:ad w0 F u N xn av.I F_) (d107:J rO zD) (d108:J rO xm) (d109:J rO xn) (d110:J zD xm) (d111:J zD xn) (d112:J xm xn) (i86:a_ (cN h m g (ct (bn (el (el h.I m.toNat).U g.toNat))) (dD write) false).2.1) (ac1:df ai.I.2 F_.2):W 3 (cp 17 [0,1,2,3,4,5,6,7,8,9,10,11,12,13]) ac w:=by
   exact eo aG 14 (S.wl aG [15,16] .nil fun _ _ _ S=>ael _ _ Cn rO No zD Cm xm F_ xn _ _ _ S rq nm aii Mj d107 d108 d109 d110 d111 d112 i86 ac1)
  have adQ ac w u N β (S:aj Tryz.prog Tryz.f33.ntmps w0 F u N β (s3.dl [] [(17,.v (GT.val h ai)),(19,.v (R h.buf.length ai.buf.1)),(20,.v (aa m)),(21,.v (aa g)),(23,.v (aa (ct (bn (el (el h.I m.toNat).U g.toNat))))),(25,.v (aa (dD write)))] 3 []) ac w) (bK:ad w0 F u N cd h.mem ai.mem) (bX:ad w0 F u N fg h.I ai.I) (bO:ad w0 F u N fa h.buf ai.buf) (bq:ad w0 F u N dY h.ag ai.ag) (al:d_ bt bw N u) (aP:cR s3.aM.length bP β):W 8 (cp 17 [0,1,2,3,4,5,6,7,8]) ac w:=by
   refine eo aG 9 ?_
   have tS:=fs (x:=h) (p:=ai) bK bX bO bq d13 d14 d15 d16 d17 d18
   refine id (S.aax (d:=26) tS hq (aar w h ai (j8 [cd,fg,fa,dY]) (S.fP tS) (fun b hb=>(S.sep b (tS.sub b hb)).1) m g (ct (bn (el (el h.I m.toNat).U g.toNat))) (rS (j1 (kn bX (by clear S;first|rfl|exact pF (by assumption)) ((df.g3 _) m.toNat) (by omega) (by omega)))) (dD write) false (by rfl)) fun ac w N y4 Oe S up BN d118 i120 acq=>?_)
   refine ar.c_ fun bj=>?_
   clear up d118 tS
   obtain⟨qH,Of,rM,C5,ik,sC,gv,tT,_,_,_,_,d134,d135,d136,d137,d138,d139⟩:=jR BN
   have IT:=df.iP (df.g3 _) acq
   exact S.cX aG [10,11,12,13] bj fun _ S=>adP _ _ y4.buf rM y4.ag C5 y4.mem qH y4.I Of _ _ _ S gv tT ik sC d139 (J.symm d135) (J.symm d137) (J.symm d136) (J.symm d138) d134 i120 IT
  have adS ac w u N β (S:aj Tryz.prog Tryz.f33.ntmps w0 F u N β (s3.dl [] [(17,.v (GT.val h ai)),(19,.v (R h.buf.length ai.buf.1)),(20,.v (aa m)),(21,.v (aa g)),(23,.v (aa (ct (bn (el (el h.I m.toNat).U g.toNat))))),(24,.v (B write))] 3 []) ac w) (bK:ad w0 F u N cd h.mem ai.mem) (bX:ad w0 F u N fg h.I ai.I) (bO:ad w0 F u N fa h.buf ai.buf) (bq:ad w0 F u N dY h.ag ai.ag) (al:d_ bt bw N u) (aP:cR s3.aM.length bP β):W 9 (cp 17 [0,1,2,3,4,5,6,7]) ac w:=by
   exact eo aG 8 (S.e_ aG al aP [] (.cons (aE fun w hw=>Z9 w write) .nil) fun _ _ _ S cb=>adQ _ _ _ _ _ S bK bX bO bq al cb)
  have al:d_ bt bw bt bw:=fun b h=>⟨h,rfl⟩
  have aP:cR s3.aM.length bP bP:=fun _ _=>rfl
  exact eo aG 6 (S.e_ aG al aP [] (.cons (aE fun w hw=>P3 w (bn (el (el h.I m.toNat).U g.toNat)) (j1 (kn bX (by clear S;first|rfl|exact pF (by assumption)) ((df.g3 _) m.toNat) (by omega) (by omega)))) .nil) fun _ _ _ S cb=>adS _ _ _ _ _ S bK bX bO bq al cb)
 clear S bK bX bO bq
 rintro ac w ⟨iM,iR,gV,gg,kT,oc,e5,od,u,N,β,S,gk,gM,hW,fM,d142,d143,d144,d145,d146,d147,i86,yl⟩
 refine S.ex fun S=>?_
 refine S.bd 10 .nil (!(cN h m g (ct (bn (el (el h.I m.toNat).U g.toNat))) (dD write) false).2.2) (fun ac w β I8 S=>?_) (fun ac w β I8 S=>?_)
 ·have aoy:=cm I8
  refine S.go 1 .nil fun ac w β S=>?_
  refine dI ?_
  refine S.dR (f:=15) 14 (by kernel_rfl) (by kernel_rfl) fun w S=>?_
  refine S.hm 5 [0,1,2,3,4,5,6,7,8,10] [] [(54,.v (R (el av.I m.toNat).U.length (e5.2 m.toNat).U.1)),(55,.v (aa g)),(56,.v (GT.val (el (el h.I m.toNat).U g.toNat) ((ai.I.2 m.toNat).U.2 g.toNat))),(57,.v (aa (bn (el (el h.I m.toNat).U g.toNat)))),(59,.v (B write))] (.cons (cq fM.ak m Tryz.underlying28) (.cons (cA fM.ak 71 m.toNat 3 (R (el av.I m.toNat).U.length (e5.2 m.toNat).U.1)) .nil)) fun ac S=>?_
  refine S.iN 9 [] [(58,.v (aa (ct (bn (el (el h.I m.toNat).U g.toNat)))))] 3 [] (.cons (aE fun w hw=>P3 w (bn (el (el h.I m.toNat).U g.toNat)) (j1 (kn bX (by clear S;first|rfl|exact pF (by assumption)) ((df.g3 _) m.toNat) (by omega) (by omega)))) .nil) fun ac w β S=>?_
  refine S.iN 11 [] [(60,.v (GT.val (gY (ct (bn (el (el h.I m.toNat).U g.toNat))) write) ()))] 3 [] (.cons (aE fun w hw=>ZW w (ct (bn (el (el h.I m.toNat).U g.toNat))) (rS (j1 (kn bX (by clear S;first|rfl|exact pF (by assumption)) ((df.g3 _) m.toNat) (by omega) (by omega)))) write) .nil) fun ac w β S=>?_
  refine ar.one (i:=12) (by kernel_rfl) ?_
  refine id (S.dB 61 (z3 w (el (el h.I m.toNat).U g.toNat) ((ai.I.2 m.toNat).U.2 g.toNat) (S.rd (kn fM (by clear S;first|rfl|exact pF (by assumption)) (yl m.toNat) (by omega) (by omega))) (gY (ct (bn (el (el h.I m.toNat).U g.toNat))) write) (IK (rS (j1 (kn bX (by clear S;first|rfl|exact pF (by assumption)) ((df.g3 _) m.toNat) (by omega) (by omega)))) write)) fun ac w N F6 C8 S up yW d153=>?_)
  refine ar.next S up (by kernel_rfl) ?_
  have d154:=J.w d153 hW.sub
  have d155:=J.w d153 fM.sub
  have d156:=J.w d153 gk.sub
  have d157:=J.w d153 gM.sub
  replace hW:=hW.up up
  replace fM:=fM.up up
  replace gk:=gk.up up
  replace gM:=gM.up up
  clear up d153
  refine S.a9 13 [13] [] [(62,.v (bh (e5.2 m.toNat).U.1.b ((e5.2 m.toNat).U.1.off+g.toNat*15)))] (.cons (cq (aU.U (d:=(el av.I m.toNat)) (ae.el fM.ak m.toNat (by omega))) g Tryz.underlying71) .nil) fun ac S=>?_
  refine ar.one (i:=14) (by kernel_rfl) ?_
  obtain⟨alO,Fw,wS,XF⟩:=pk fM (k:=m.toNat) (show m.toNat<av.I.length by omega)
  have apv:=ae.le Fw.ak
  have Lx:=Fw.sub
  refine id (S.kU (α:=ax) Fw (t:=70) (k:=g.toNat) (off:=(e5.2 m.toNat).U.1.off+g.toNat*15) yW (J.symm (J.symm (J.part d155 wS))) fun w N WI aqw S up Fx d167 ajS Un=>?_)
  refine ar.last (by kernel_rfl) ?_
  have d170:=d167 _ (J.symm (J.part (J.symm d147) wS)) d154 hW.sub
  have d171:=d167 _ (J.symm (J.part (J.symm d144) wS)) d156 gk.sub
  have d172:=d167 _ (J.symm (J.part (J.symm d146) wS)) d157 gM.sub
  replace hW:=hW.bk (J.symm (J.part (J.symm d147) wS)) up
  replace gk:=gk.bk (J.symm (J.part (J.symm d144) wS)) up
  replace gM:=gM.bk (J.symm (J.part (J.symm d146) wS)) up
  clear d167 Fw
  obtain⟨Vb,lu,Yl⟩:=XF _ _ _ _ _ C8 up Fx ajS d155 (by show [R _ _]=[R _ _];rw [List.length_set]) (fun b h=>Un b (Lx b h))
  clear up Fx Un
  have agd:(av.I.set m.toNat ({el av.I m.toNat with U:=((el av.I m.toNat).U.set g.toNat ({(el (el h.I m.toNat).U g.toNat) with exit:=(gY (ct (bn (el (el h.I m.toNat).U g.toNat))) write)}:ax))})).length=av.I.length:=List.length_set
  obtain⟨zM,R1⟩:∃z,z=av.I.set m.toNat ({el av.I m.toNat with U:=((el av.I m.toNat).U.set g.toNat ({(el (el h.I m.toNat).U g.toNat) with exit:=(gY (ct (bn (el (el h.I m.toNat).U g.toNat))) write)}:ax))}):=⟨_,rfl⟩
  rw [←R1] at lu Yl agd
  obtain⟨apz,anf⟩:=Gn R1 (show m.toNat<av.I.length by omega) List.length_set
  replace S:=S.z (σ':=⟨[(5,.p 0 0),(10,.p 2 0),(61,.v (GT.val ({(el (el h.I m.toNat).U g.toNat) with exit:=(gY (ct (bn (el (el h.I m.toNat).U g.toNat))) write)}:ax) F6)),(62,.v (bh (e5.2 m.toNat).U.1.b ((e5.2 m.toNat).U.1.off+g.toNat*15)))],[[R av.mem.length kT.1,R av.I.length e5.1,R av.buf.length iM.1,R av.ag.length gV.1],GT.cells (el (el h.I m.toNat).U g.toNat) ((ai.I.2 m.toNat).U.2 g.toNat),cg ah]⟩)
  replace S:=S.cast (σ':=⟨[(5,.p 0 0),(10,.p 2 0),(61,.v (GT.val ({(el (el h.I m.toNat).U g.toNat) with exit:=(gY (ct (bn (el (el h.I m.toNat).U g.toNat))) write)}:ax) F6)),(62,.v (bh (e5.2 m.toNat).U.1.b ((e5.2 m.toNat).U.1.off+g.toNat*15)))],[[R av.mem.length kT.1,R zM.length e5.1,R av.buf.length iM.1,R av.ag.length gV.1],GT.cells (el (el h.I m.toNat).U g.toNat) ((ai.I.2 m.toNat).U.2 g.toNat),cg ah]⟩) (by rw [show zM.length=av.I.length by omega])
  refine ar.done (by kernel_rfl) ?_ _
  refine S.ex fun S=>?_
  refine S.bo 9 .nil [GT.val (⟨av.mem,zM,av.buf,av.ag⟩:ah) (⟨kT,(e5.1,Vb),iM,gV⟩:b_)] fun ac w β S=>?_
  have ahK:=fs (x:=(⟨av.mem,zM,av.buf,av.ag⟩:ah)) (p:=(⟨kT,(e5.1,Vb),iM,gV⟩:b_)) hW lu gk gM (J.symm (J.or (J.symm d147) (J.symm d170))) (J.symm d143) (J.symm d145) (J.symm (J.symm (J.or (J.symm d144) (J.symm d171)))) (J.symm (J.symm (J.or (J.symm d146) (J.symm d172)))) d142
  exact Cs S (show mu h m g (el (el h.I m.toNat).U g.toNat) write=(⟨av.mem,zM,av.buf,av.ag⟩:ah) from K7) rfl ahK
 have aoA:=b9 I8
 refine S.bd 7 .nil write (fun ac w β adk S=>?_) (fun ac w β adk S=>?_)
 ·refine S.go 2 .nil fun ac w β S=>?_
  refine dI ?_
  refine S.dR (f:=10) 9 (by kernel_rfl) (by kernel_rfl) fun w S=>?_
  refine S.hm 4 [0,1,2,3,5,6] [] [(66,.v (R av.mem.length kT.1)),(67,.v (aa (cN h m g (ct (bn (el (el h.I m.toNat).U g.toNat))) (dD write) false).2.1)),(68,.v (aa (bn (el (el h.I m.toNat).U g.toNat)))),(71,.v (aa (el (el h.I m.toNat).U g.toNat).acc))] .nil fun ac S=>?_
  refine S.iN 4 [] [(69,.v (aa (ds (bn (el (el h.I m.toNat).U g.toNat)))))] 3 [] (.cons (aE fun w hw=>P2 w (bn (el (el h.I m.toNat).U g.toNat)) (j1 (kn bX (by clear S;first|rfl|exact pF (by assumption)) ((df.g3 _) m.toNat) (by omega) (by omega)))) .nil) fun ac w β S=>?_
  refine ar.one (i:=7) (by kernel_rfl) ?_
  refine id (S.dB 72 (aaj w av.mem kT (S.rd hW.ak) (cN h m g (ct (bn (el (el h.I m.toNat).U g.toNat))) (dD write) false).2.1 (ds (bn (el (el h.I m.toNat).U g.toNat))) (el (el h.I m.toNat).U g.toNat).acc (az.acc (d:=(el (el h.I m.toNat).U g.toNat)) (kn fM (by clear S;first|rfl|exact pF (by assumption)) (yl m.toNat) (by omega) (by omega)))) fun ac w N Cf Oo S up iW d187=>?_)
  refine ar.next S up (by kernel_rfl) ?_
  have d189:=J.w d187 fM.sub
  have d190:=J.w d187 gk.sub
  have d191:=J.w d187 gM.sub
  replace hW:=hW.up up
  replace fM:=fM.up up
  replace gk:=gk.up up
  replace gM:=gM.up up
  clear up d187
  refine S.a9 8 [8] [] [(73,.p 0 0)] .nil fun ac S=>?_
  refine S.c_ 9 [] [] 3 [(0,[R (gh av.mem (cN h m g (ct (bn (el (el h.I m.toNat).U g.toNat))) (dD write) false).2.1 (ds (bn (el (el h.I m.toNat).U g.toNat))) (el (el h.I m.toNat).U g.toNat).acc).length Cf.1,R av.I.length e5.1,R av.buf.length iM.1,R av.ag.length gV.1])] .nil fun ac w β S=>?_
  refine ar.done (by kernel_rfl) ?_ _
  refine S.ex fun S=>?_
  refine S.go 1 .nil fun ac w β S=>?_
  refine dI ?_
  refine S.dR (f:=11) 10 (by kernel_rfl) (by kernel_rfl) fun w S=>?_
  refine S.hm 3 [0,1,2,3,4,5,6,7] [] [(79,.v (R (el av.I m.toNat).U.length (e5.2 m.toNat).U.1)),(80,.v (aa g)),(81,.v (GT.val (el (el h.I m.toNat).U g.toNat) ((ai.I.2 m.toNat).U.2 g.toNat)))] (.cons (cq fM.ak m Tryz.underlying28) (.cons (cA fM.ak 71 m.toNat 3 (R (el av.I m.toNat).U.length (e5.2 m.toNat).U.1)) .nil)) fun ac S=>?_
  refine ar.one (i:=8) (by kernel_rfl) ?_
  refine id (S.dB 82 (aae w (el (el h.I m.toNat).U g.toNat) ((ai.I.2 m.toNat).U.2 g.toNat) (S.rd (kn fM (by clear S;first|rfl|exact pF (by assumption)) (yl m.toNat) (by omega) (by omega)))) fun ac w N wM WL S up ahM d195=>?_)
  refine ar.next S up (by kernel_rfl) ?_
  have d196:=J.w d195 fM.sub
  have d197:=J.w d195 gk.sub
  have d198:=J.w d195 gM.sub
  have d199:=J.w d195 iW.sub
  replace fM:=fM.up up
  replace gk:=gk.up up
  replace gM:=gM.up up
  replace iW:=iW.up up
  clear up d195
  refine S.a9 9 [9] [] [(83,.v (bh (e5.2 m.toNat).U.1.b ((e5.2 m.toNat).U.1.off+g.toNat*15)))] (.cons (cq (aU.U (d:=(el av.I m.toNat)) (ae.el fM.ak m.toNat (by omega))) g Tryz.underlying71) .nil) fun ac S=>?_
  refine ar.one (i:=10) (by kernel_rfl) ?_
  obtain⟨alW,Fz,wT,XH⟩:=pk fM (k:=m.toNat) (show m.toNat<av.I.length by omega)
  have apE:=ae.le Fz.ak
  have ahb:=Fz.sub
  refine id (S.kU (α:=ax) Fz (t:=70) (k:=g.toNat) (off:=(e5.2 m.toNat).U.1.off+g.toNat*15) ahM (J.symm (J.symm (J.part d196 wT))) fun w N alY aqx S up FA d209 aj2 Uo=>?_)
  refine ar.last (by kernel_rfl) ?_
  have d212:=d209 _ (J.symm (J.part (J.symm d144) wT)) d197 gk.sub
  have d213:=d209 _ (J.symm (J.part (J.symm d146) wT)) d198 gM.sub
  have d214:=d209 _ (J.symm (J.part d189 wT)) d199 iW.sub
  replace gk:=gk.bk (J.symm (J.part (J.symm d144) wT)) up
  replace gM:=gM.bk (J.symm (J.part (J.symm d146) wT)) up
  replace iW:=iW.bk (J.symm (J.part d189 wT)) up
  clear d209 Fz
  obtain⟨Vc,l6,Ym⟩:=XH _ _ _ _ _ WL up FA aj2 d196 (by show [R _ _]=[R _ _];rw [List.length_set]) (fun b h=>Uo b (ahb b h))
  clear up FA Uo
  have agh:(av.I.set m.toNat ({el av.I m.toNat with U:=((el av.I m.toNat).U.set g.toNat (a5 (el (el h.I m.toNat).U g.toNat)))})).length=av.I.length:=List.length_set
  obtain⟨zN,R2⟩:∃z,z=av.I.set m.toNat ({el av.I m.toNat with U:=((el av.I m.toNat).U.set g.toNat (a5 (el (el h.I m.toNat).U g.toNat)))}):=⟨_,rfl⟩
  rw [←R2] at l6 Ym agh
  obtain⟨apI,anh⟩:=Gn R2 (show m.toNat<av.I.length by omega) List.length_set
  replace S:=S.z (σ':=⟨[(5,.p 0 0),(10,.p 2 0),(82,.v (GT.val (a5 (el (el h.I m.toNat).U g.toNat)) wM)),(83,.v (bh (e5.2 m.toNat).U.1.b ((e5.2 m.toNat).U.1.off+g.toNat*15)))],[[R (gh av.mem (cN h m g (ct (bn (el (el h.I m.toNat).U g.toNat))) (dD write) false).2.1 (ds (bn (el (el h.I m.toNat).U g.toNat))) (el (el h.I m.toNat).U g.toNat).acc).length Cf.1,R av.I.length e5.1,R av.buf.length iM.1,R av.ag.length gV.1],GT.cells (el (el h.I m.toNat).U g.toNat) ((ai.I.2 m.toNat).U.2 g.toNat),cg ah]⟩)
  replace S:=S.cast (σ':=⟨[(5,.p 0 0),(10,.p 2 0),(82,.v (GT.val (a5 (el (el h.I m.toNat).U g.toNat)) wM)),(83,.v (bh (e5.2 m.toNat).U.1.b ((e5.2 m.toNat).U.1.off+g.toNat*15)))],[[R (gh av.mem (cN h m g (ct (bn (el (el h.I m.toNat).U g.toNat))) (dD write) false).2.1 (ds (bn (el (el h.I m.toNat).U g.toNat))) (el (el h.I m.toNat).U g.toNat).acc).length Cf.1,R zN.length e5.1,R av.buf.length iM.1,R av.ag.length gV.1],GT.cells (el (el h.I m.toNat).U g.toNat) ((ai.I.2 m.toNat).U.2 g.toNat),cg ah]⟩) (by rw [show zN.length=av.I.length by omega])
  refine ar.done (by kernel_rfl) ?_ _
  refine S.ex fun S=>?_
  refine S.bo 9 .nil [GT.val (⟨(gh av.mem (cN h m g (ct (bn (el (el h.I m.toNat).U g.toNat))) (dD write) false).2.1 (ds (bn (el (el h.I m.toNat).U g.toNat))) (el (el h.I m.toNat).U g.toNat).acc),zN,av.buf,av.ag⟩:ah) (⟨Cf,(e5.1,Vc),iM,gV⟩:b_)] fun ac w β S=>?_
  have ahR:=fs (x:=(⟨(gh av.mem (cN h m g (ct (bn (el (el h.I m.toNat).U g.toNat))) (dD write) false).2.1 (ds (bn (el (el h.I m.toNat).U g.toNat))) (el (el h.I m.toNat).U g.toNat).acc),zN,av.buf,av.ag⟩:ah)) (p:=(⟨Cf,(e5.1,Vc),iM,gV⟩:b_)) iW l6 gk gM (J.symm (J.or d189 (J.symm d214))) (J.symm d190) (J.symm d191) (J.symm (J.symm (J.or (J.symm d144) (J.symm d212)))) (J.symm (J.symm (J.or (J.symm d146) (J.symm d213)))) d142
  exact Cs S (show mu h m g (el (el h.I m.toNat).U g.toNat) write=(⟨(gh av.mem (cN h m g (ct (bn (el (el h.I m.toNat).U g.toNat))) (dD write) false).2.1 (ds (bn (el (el h.I m.toNat).U g.toNat))) (el (el h.I m.toNat).U g.toNat).acc),zN,av.buf,av.ag⟩:ah) from K7) rfl ahR
 refine S.go 1 .nil fun ac w β S=>?_
 refine dI ?_
 refine S.dR (f:=17) 16 (by kernel_rfl) (by kernel_rfl) fun w S=>?_
 refine S.hm 5 [0,1,2,3,4,5,6,7,8,9,10,11] [] [(35,.v (R (el av.I m.toNat).U.length (e5.2 m.toNat).U.1)),(36,.v (aa g)),(37,.v (GT.val (el (el h.I m.toNat).U g.toNat) ((ai.I.2 m.toNat).U.2 g.toNat))),(39,.v (R av.mem.length kT.1)),(40,.v (aa (cN h m g (ct (bn (el (el h.I m.toNat).U g.toNat))) (dD write) false).2.1)),(41,.v (aa (bn (el (el h.I m.toNat).U g.toNat))))] (.cons (cq fM.ak m Tryz.underlying28) (.cons (cA fM.ak 71 m.toNat 3 (R (el av.I m.toNat).U.length (e5.2 m.toNat).U.1)) .nil)) fun ac S=>?_
 refine S.iN 12 [] [(42,.v (aa (ds (bn (el (el h.I m.toNat).U g.toNat)))))] 3 [] (.cons (aE fun w hw=>P2 w (bn (el (el h.I m.toNat).U g.toNat)) (j1 (kn bX (by clear S;first|rfl|exact pF (by assumption)) ((df.g3 _) m.toNat) (by omega) (by omega)))) .nil) fun ac w β S=>?_
 refine S.iN 13 [] [(43,.v (aa (fI av.mem (cN h m g (ct (bn (el (el h.I m.toNat).U g.toNat))) (dD write) false).2.1 (ds (bn (el (el h.I m.toNat).U g.toNat))))))] 3 [] (.cons (aE fun w hw=>ZR w av.mem kT (bJ hW.ak hw) (cN h m g (ct (bn (el (el h.I m.toNat).U g.toNat))) (dD write) false).2.1 (ds (bn (el (el h.I m.toNat).U g.toNat)))) .nil) fun ac w β S=>?_
 refine ar.one (i:=14) (by kernel_rfl) ?_
 refine id (S.dB 44 (Z6 w (el (el h.I m.toNat).U g.toNat) ((ai.I.2 m.toNat).U.2 g.toNat) (S.rd (kn fM (by clear S;first|rfl|exact pF (by assumption)) (yl m.toNat) (by omega) (by omega))) (fI av.mem (cN h m g (ct (bn (el (el h.I m.toNat).U g.toNat))) (dD write) false).2.1 (ds (bn (el (el h.I m.toNat).U g.toNat)))) (HS hW.ak (cN h m g (ct (bn (el (el h.I m.toNat).U g.toNat))) (dD write) false).2.1 (ds (bn (el (el h.I m.toNat).U g.toNat))))) fun ac w N rA GL S up BU d227=>?_)
 refine ar.next S up (by kernel_rfl) ?_
 have d228:=J.w d227 hW.sub
 have d229:=J.w d227 fM.sub
 have d230:=J.w d227 gk.sub
 have d231:=J.w d227 gM.sub
 replace hW:=hW.up up
 replace fM:=fM.up up
 replace gk:=gk.up up
 replace gM:=gM.up up
 clear up d227
 refine S.a9 15 [15] [] [(45,.v (bh (e5.2 m.toNat).U.1.b ((e5.2 m.toNat).U.1.off+g.toNat*15)))] (.cons (cq (aU.U (d:=(el av.I m.toNat)) (ae.el fM.ak m.toNat (by omega))) g Tryz.underlying71) .nil) fun ac S=>?_
 refine ar.one (i:=16) (by kernel_rfl) ?_
 obtain⟨jc,fV,wU,XJ⟩:=pk fM (k:=m.toNat) (show m.toNat<av.I.length by omega)
 have apJ:=ae.le fV.ak
 have ahe:=fV.sub
 refine id (S.kU (α:=ax) fV (t:=70) (k:=g.toNat) (off:=(e5.2 m.toNat).U.1.off+g.toNat*15) BU (J.symm (J.symm (J.part d229 wU))) fun w N al0 aqy S up UL d241 aj6 Up=>?_)
 refine ar.last (by kernel_rfl) ?_
 have d244:=d241 _ (J.symm (J.part (J.symm d147) wU)) d228 hW.sub
 have d245:=d241 _ (J.symm (J.part (J.symm d144) wU)) d230 gk.sub
 have d246:=d241 _ (J.symm (J.part (J.symm d146) wU)) d231 gM.sub
 replace hW:=hW.bk (J.symm (J.part (J.symm d147) wU)) up
 replace gk:=gk.bk (J.symm (J.part (J.symm d144) wU)) up
 replace gM:=gM.bk (J.symm (J.part (J.symm d146) wU)) up
 clear d241 fV
 obtain⟨Vd,UN,Yn⟩:=XJ _ _ _ _ _ GL up UL aj6 d229 (by show [R _ _]=[R _ _];rw [List.length_set]) (fun b h=>Up b (ahe b h))
 clear up UL Up
 have agj:(av.I.set m.toNat ({el av.I m.toNat with U:=((el av.I m.toNat).U.set g.toNat (ia (el (el h.I m.toNat).U g.toNat) (fI av.mem (cN h m g (ct (bn (el (el h.I m.toNat).U g.toNat))) (dD write) false).2.1 (ds (bn (el (el h.I m.toNat).U g.toNat))))))})).length=av.I.length:=List.length_set
 obtain⟨zO,R4⟩:∃z,z=av.I.set m.toNat ({el av.I m.toNat with U:=((el av.I m.toNat).U.set g.toNat (ia (el (el h.I m.toNat).U g.toNat) (fI av.mem (cN h m g (ct (bn (el (el h.I m.toNat).U g.toNat))) (dD write) false).2.1 (ds (bn (el (el h.I m.toNat).U g.toNat))))))}):=⟨_,rfl⟩
 rw [←R4] at UN Yn agj
 obtain⟨apM,ani⟩:=Gn R4 (show m.toNat<av.I.length by omega) List.length_set
 replace S:=S.z (σ':=⟨[(5,.p 0 0),(10,.p 2 0),(44,.v (GT.val (ia (el (el h.I m.toNat).U g.toNat) (fI av.mem (cN h m g (ct (bn (el (el h.I m.toNat).U g.toNat))) (dD write) false).2.1 (ds (bn (el (el h.I m.toNat).U g.toNat))))) rA)),(45,.v (bh (e5.2 m.toNat).U.1.b ((e5.2 m.toNat).U.1.off+g.toNat*15)))],[[R av.mem.length kT.1,R av.I.length e5.1,R av.buf.length iM.1,R av.ag.length gV.1],GT.cells (el (el h.I m.toNat).U g.toNat) ((ai.I.2 m.toNat).U.2 g.toNat),cg ah]⟩)
 replace S:=S.cast (σ':=⟨[(5,.p 0 0),(10,.p 2 0),(44,.v (GT.val (ia (el (el h.I m.toNat).U g.toNat) (fI av.mem (cN h m g (ct (bn (el (el h.I m.toNat).U g.toNat))) (dD write) false).2.1 (ds (bn (el (el h.I m.toNat).U g.toNat))))) rA)),(45,.v (bh (e5.2 m.toNat).U.1.b ((e5.2 m.toNat).U.1.off+g.toNat*15)))],[[R av.mem.length kT.1,R zO.length e5.1,R av.buf.length iM.1,R av.ag.length gV.1],GT.cells (el (el h.I m.toNat).U g.toNat) ((ai.I.2 m.toNat).U.2 g.toNat),cg ah]⟩) (by rw [show zO.length=av.I.length by omega])
 refine ar.done (by kernel_rfl) ?_ _
 refine S.ex fun S=>?_
 refine S.bo 9 .nil [GT.val (⟨av.mem,zO,av.buf,av.ag⟩:ah) (⟨kT,(e5.1,Vd),iM,gV⟩:b_)] fun ac w β S=>?_
 have BV:=fs (x:=(⟨av.mem,zO,av.buf,av.ag⟩:ah)) (p:=(⟨kT,(e5.1,Vd),iM,gV⟩:b_)) hW UN gk gM (J.symm (J.or (J.symm d147) (J.symm d244))) (J.symm d143) (J.symm d145) (J.symm (J.symm (J.or (J.symm d144) (J.symm d245)))) (J.symm (J.symm (J.or (J.symm d146) (J.symm d246)))) d142
 exact Cs S (show mu h m g (el (el h.I m.toNat).U g.toNat) write=(⟨av.mem,zO,av.buf,av.ag⟩:ah) from K7) rfl BV
theorem K1 {p:Prop} (h:p:=by clear S;(unfold hR;first|(rw [Bool.eq_iff_iff];simp_all;done)|(rw [Bool.eq_iff_iff];simp_all [a3];omega)|(simp_all;done))):p:=h
theorem z2 (w0:World) (aY:Int) (hZ:Int):Calls Tryz.prog 230 [aa aY,aa hZ].toArray w0 (fun e w'=>e= .returned (B (hR aY hZ))/\bB ab w0 w'):=by
 refine Calls.run ab Tryz.func230 ?_
 intro ac β S
 refine S.bd 10 (.cons (aE fun w hw=>fE w aY 0 3) .nil) (a3 aY 0 3) (fun ac w β h1 S=>?_) (fun ac w β h1 S=>?_)
 ·have a8:=cV h1
  refine S.bd 4 (.cons (aE fun w hw=>fE w hZ 1 2) .nil) (a3 hZ 1 2) (fun ac w β aF S=>?_) (fun ac w β aF S=>?_)
  ·have cC:=cV aF
   exact S.aq 9 (.cons (qO (x:=aY) (y:=hZ)) .nil) [B ((jK aY hZ) != 0)] (a6 K1)
  have dJ:=dn aF
  exact S.aq 9 .nil [B false] (a6 K1)
 have c6:=dn h1
 exact S.aq 13 .nil [B false] (a6 K1)
theorem Qb (w0:World) (outer:Int) (inner:Int) (hZ:Int):Calls Tryz.prog 122 [aa outer,aa inner,aa hZ].toArray w0 (fun e w'=>e= .returned (aa (hT outer inner hZ))/\bB ab w0 w'):=by
 refine Calls.run ab Tryz.func122 ?_
 intro ac β S
 refine S.bd 13 (.cons (aE fun w hw=>z2 w inner hZ) .nil) (hR inner hZ) (fun ac w β h1 S=>?_) (fun ac w β h1 S=>?_)
 ·exact S.aq 7 .nil [aa 1] (b4 (by clear S;(simp [hT, *])))
 refine S.bd 11 (.cons (aE fun w hw=>z2 w outer hZ) .nil) (hR outer hZ) (fun ac w β an S=>?_) (fun ac w β an S=>?_)
 ·exact S.aq 7 .nil [aa 2] (b4 (by clear S;(simp [hT, *])))
 exact S.aq 9 .nil [aa 0] (b4 (by clear S;(simp [hT, *])))
theorem ZQ (w0:World) (n:Int) (cY:a_ n):Calls Tryz.prog 231 [aa n].toArray w0 (fun e w'=>e= .returned (GT.val (mm n) ())/\bB ab w0 w'):=by
 refine Calls.run ab Tryz.func231 ?_
 intro ac β S
 have yD:=cY.lo;have yv:=cY.hi
 exact S.aq 13 (.cons (fY (s:=Instr.build 68 [(0,aa 2),(3,aa n)].toArray) (v:= .agg [aa 2,aa 0,B false,aa n].toArray) (fun w=>by kernel_rfl)) .nil) [GT.val (⟨2,0,false,n⟩:dg) ()] (hX (p:=()) (by clear S;rfl))
theorem Z_ (w0:World) (n:Int) (cY:a_ n):Calls Tryz.prog 232 [aa n].toArray w0 (fun e w'=>e= .returned (GT.val (mq n) ())/\bB ab w0 w'):=by
 refine Calls.run ab Tryz.func232 ?_
 intro ac β S
 have yD:=cY.lo;have yv:=cY.hi
 exact S.aq 13 (.cons (fY (s:=Instr.build 68 [(0,aa 3),(3,aa n)].toArray) (v:= .agg [aa 3,aa 0,B false,aa n].toArray) (fun w=>by kernel_rfl)) .nil) [GT.val (⟨3,0,false,n⟩:dg) ()] (hX (p:=()) (by clear S;rfl))
theorem P_ (w0:World) (g:ax) (bf:c5) (aJ:bQ w0 g bf):Calls Tryz.prog 233 [GT.val g bf].toArray w0 (dw ab w0 (jD g:ax)):=by
 refine Calls.run ab Tryz.func233 ?_
 intro ac β S
 have iE:g.prog.length<=4194304:=ae.le (az.prog (d:=g) aJ)
 have iG:g.written.length<=4194304:=ae.le (az.written (d:=g) aJ)
 have iD:g.live.length<=4194304:=ae.le (az.live (d:=g) aJ)
 have iF:g.seen.length<=4194304:=ae.le (az.seen (d:=g) aJ)
 refine S.go 15 .nil fun ac w β S=>S.cJ (r:=a5 (⟨g.prog,g.acc,g.aw,g.written,g.live,g.aN,g.aC,g.exit,true,g.seen⟩:ax)) (d:=5) (p3 w (⟨g.prog,g.acc,g.aw,g.written,g.live,g.aN,g.aC,g.exit,true,g.seen⟩:ax) (⟨bf.prog,bf.written,bf.live,bf.seen⟩:c5) (S.rd (show GT.rd b6 _ _ (⟨g.prog,g.acc,g.aw,g.written,g.live,g.aN,g.aC,g.exit,true,g.seen⟩:ax) (⟨bf.prog,bf.written,bf.live,bf.seen⟩:c5) from⟨(az.prog (p:=bf) (d:=g) (S.arg aJ)),(az.acc (d:=g) (S.arg aJ)),(az.aw (d:=g) (S.arg aJ)),(az.written (p:=bf) (d:=g) (S.arg aJ)),(az.live (p:=bf) (d:=g) (S.arg aJ)),(az.aN (d:=g) (S.arg aJ)),(az.aC (d:=g) (S.arg aJ)),(az.exit (d:=g) (S.arg aJ)),(az.seen (p:=bf) (d:=g) (S.arg aJ))⟩))) fun ac w N af br S up aA d4=>?_
 clear up d4
 refine S.bo 4 .nil [GT.val (a5 (⟨g.prog,g.acc,g.aw,g.written,g.live,g.aN,g.aC,g.exit,true,g.seen⟩:ax)) af] fun ac w β S=>?_
 exact cy S (show jD g=(a5 (⟨g.prog,g.acc,g.aw,g.written,g.live,g.aN,g.aC,g.exit,true,g.seen⟩:ax)) by clear S;rfl) rfl aA
theorem mF {p:Prop} (h:p:=by clear S;(unfold dS;(repeat' split)<;>first|rfl|(exfalso;omega)|(exfalso;simp_all;done)|(exfalso;simp_all;omega)|(simp_all;done))):p:=h
theorem aam (w0:World) (x:ax) (ir:c5) (hx:bQ w0 x ir) (aY:Int) (want:Int):Calls Tryz.prog 123 [GT.val x ir,aa aY,aa want].toArray w0 (o4 ab w0 ((dS x aY want).1:ax) ((dS x aY want).2:Bool)):=by
 refine Calls.run ab Tryz.func123 ?_
 intro ac β S
 have SV:x.prog.length<=4194304:=ae.le (az.prog (d:=x) hx)
 have SX:x.written.length<=4194304:=ae.le (az.written (d:=x) hx)
 have SU:x.live.length<=4194304:=ae.le (az.live (d:=x) hx)
 have SW:x.seen.length<=4194304:=ae.le (az.seen (d:=x) hx)
 refine S.aI 27 (.cons (aE fun w hw=>uU w x.prog ir.prog (bJ (az.prog (d:=x) (S.arg hx)) hw) x.aw) .nil) (want==6) (fun ac w β h1 a8 S=>?_) (fun ac w β h1 a8 S=>?_)
 ·refine S.go 2 .nil fun ac w β S=>?_
  refine dI ?_
  refine S.dR (f:=7) 5 (by kernel_rfl) (by kernel_rfl) fun w S=>?_
  refine S.hm 4 [0,1,2] [] [(17,.v (GT.val x ir)),(19,.v (aa (bG x.prog x.aw).x))] .nil fun ac S=>?_
  refine S.iN 3 [] [(20,.v (GT.val (mm (bG x.prog x.aw).x) ()))] 3 [] (.cons (aE fun w hw=>ZQ w (bG x.prog x.aw).x (je.x (d:=(bG x.prog x.aw)) (l4 (az.prog (d:=x) (S.arg hx)) x.aw))) .nil) fun ac w β S=>?_
  refine ar.one (i:=4) (by kernel_rfl) ?_
  refine id (S.dB 21 (z3 w x ir (S.rd (S.arg hx)) (mm (bG x.prog x.aw).x) (Ql (je.x (d:=(bG x.prog x.aw)) (l4 (az.prog (d:=x) (S.arg hx)) x.aw)))) fun ac w N sQ fg S up bX d6=>?_)
  refine ar.next S up (by kernel_rfl) ?_
  clear up d6
  refine S.c_ 5 [] [] 3 [(1,GT.cells ({x with exit:=(mm (bG x.prog x.aw).x)}:ax) sQ)] .nil fun ac w β S=>?_
  refine S.c_ 6 [] [(7,.v (B false))] 3 [] .nil fun ac w β S=>?_
  refine ar.done (by kernel_rfl) ?_ _
  refine S.ex fun S=>?_
  refine S.bo 2 .nil [GT.val ({x with exit:=(mm (bG x.prog x.aw).x)}:ax) sQ,B false] fun ac w β S=>?_
  exact gb (p':=()) S (show(dS x aY want).1=({x with exit:=(mm (bG x.prog x.aw).x)}:ax) from mF) (show(dS x aY want).2=false from mF) rfl rfl bX trivial
 refine S.aI 6 .nil (want==5) (fun ac w β cE fl S=>?_) (fun ac w β cE fl S=>?_)
 ·refine S.bd 6 (.cons (aE fun w hw=>z2 w aY 1) .nil) (hR aY 1) (fun ac w β ez S=>?_) (fun ac w β ez S=>?_)
  ·refine S.go 2 .nil fun ac w β S=>?_
   refine dI ?_
   refine S.dR (f:=7) 5 (by kernel_rfl) (by kernel_rfl) fun w S=>?_
   refine S.hm 4 [0,1,2] [] [(29,.v (GT.val x ir)),(31,.v (aa (bG x.prog x.aw).x))] .nil fun ac S=>?_
   refine S.iN 3 [] [(32,.v (GT.val (mq (bG x.prog x.aw).x) ()))] 3 [] (.cons (aE fun w hw=>Z_ w (bG x.prog x.aw).x (je.x (d:=(bG x.prog x.aw)) (l4 (az.prog (d:=x) (S.arg hx)) x.aw))) .nil) fun ac w β S=>?_
   refine ar.one (i:=4) (by kernel_rfl) ?_
   refine id (S.dB 33 (z3 w x ir (S.rd (S.arg hx)) (mq (bG x.prog x.aw).x) (U0 (je.x (d:=(bG x.prog x.aw)) (l4 (az.prog (d:=x) (S.arg hx)) x.aw)))) fun ac w N eM eh S up bA d13=>?_)
   refine ar.next S up (by kernel_rfl) ?_
   clear up d13
   refine S.c_ 5 [] [] 3 [(1,GT.cells ({x with exit:=(mq (bG x.prog x.aw).x)}:ax) eM)] .nil fun ac w β S=>?_
   refine S.c_ 6 [] [(7,.v (B false))] 3 [] .nil fun ac w β S=>?_
   refine ar.done (by kernel_rfl) ?_ _
   refine S.ex fun S=>?_
   refine S.bo 2 .nil [GT.val ({x with exit:=(mq (bG x.prog x.aw).x)}:ax) eM,B false] fun ac w β S=>?_
   exact gb (p':=()) S (show(dS x aY want).1=({x with exit:=(mq (bG x.prog x.aw).x)}:ax) from mF) (show(dS x aY want).2=false from mF) rfl rfl bA trivial
  refine S.aI 6 .nil (want==7) (fun ac w β ig lP S=>?_) (fun ac w β ig lP S=>?_)
  ·refine S.bd 6 (.cons (aE fun w hw=>z2 w aY 2) .nil) (hR aY 2) (fun ac w β lR S=>?_) (fun ac w β lR S=>?_)
   ·refine S.go 5 (.cons (fY (s:=Instr.build 68 [(0,aa 4)].toArray) (v:= .agg [aa 4,aa 0,B false,aa 0].toArray) (fun w=>by kernel_rfl)) .nil) fun ac w β S=>S.cJ (r:=({x with exit:=(⟨4,0,false,0⟩:dg)}:ax)) (d:=43) (z3 w x ir (S.rd (S.arg hx)) (⟨4,0,false,0⟩:dg) (show fL (⟨4,0,false,0⟩:dg) from⟨(show a_ 4 from⟨by decide,by decide⟩),(show a_ 0 from⟨by decide,by decide⟩),(show a_ 0 from⟨by decide,by decide⟩)⟩)) fun ac w N wL ka S up eA d20=>?_
    clear up d20
    refine S.bo 5 .nil [GT.val ({x with exit:=(⟨4,0,false,0⟩:dg)}:ax) wL,B false] fun ac w β S=>?_
    exact gb (p':=()) S (show(dS x aY want).1=({x with exit:=(⟨4,0,false,0⟩:dg)}:ax) from mF) (show(dS x aY want).2=false from mF) rfl rfl eA trivial
   refine S.go 8 .nil fun ac w β S=>?_
   refine S.lt 44 ig fun S=>?_
   refine S.go 4 .nil fun ac w β S=>S.cJ (r:=jD x) (d:=48) (P_ w x ir (S.rd (S.arg hx))) fun ac w N c9 fJ S up bb d24=>?_
   clear up d24
   refine S.bo 5 .nil [GT.val (jD x) c9,B true] fun ac w β S=>?_
   exact gb (p':=()) S (show(dS x aY want).1=(jD x) from mF) (show(dS x aY want).2=true from mF) rfl rfl bb trivial
  refine S.go 14 .nil fun ac w β S=>?_
  refine S.lt 44 ig fun S=>?_
  refine S.go 7 .nil fun ac w β S=>S.cJ (r:=a5 x) (d:=50) (p3 w x ir (S.rd (S.arg hx))) fun ac w N kR lI S up dT d28=>?_
  clear up d28
  refine S.bo 5 .nil [GT.val (a5 x) kR,B true] fun ac w β S=>?_
  exact gb (p':=()) S (show(dS x aY want).1=(a5 x) from mF) (show(dS x aY want).2=true from mF) rfl rfl dT trivial
 refine S.aI 12 .nil (want==7) (fun ac w β jf nW S=>?_) (fun ac w β jf nW S=>?_)
 ·refine S.bd 6 (.cons (aE fun w hw=>z2 w aY 2) .nil) (hR aY 2) (fun ac w β lT S=>?_) (fun ac w β lT S=>?_)
  ·refine S.go 5 (.cons (fY (s:=Instr.build 68 [(0,aa 4)].toArray) (v:= .agg [aa 4,aa 0,B false,aa 0].toArray) (fun w=>by kernel_rfl)) .nil) fun ac w β S=>S.cJ (r:=({x with exit:=(⟨4,0,false,0⟩:dg)}:ax)) (d:=43) (z3 w x ir (S.rd (S.arg hx)) (⟨4,0,false,0⟩:dg) (show fL (⟨4,0,false,0⟩:dg) from⟨(show a_ 4 from⟨by decide,by decide⟩),(show a_ 0 from⟨by decide,by decide⟩),(show a_ 0 from⟨by decide,by decide⟩)⟩)) fun ac w N ga qJ S up im d35=>?_
   clear up d35
   refine S.bo 5 .nil [GT.val ({x with exit:=(⟨4,0,false,0⟩:dg)}:ax) ga,B false] fun ac w β S=>?_
   exact gb (p':=()) S (show(dS x aY want).1=({x with exit:=(⟨4,0,false,0⟩:dg)}:ax) from mF) (show(dS x aY want).2=false from mF) rfl rfl im trivial
  refine S.go 8 .nil fun ac w β S=>?_
  refine S.lt 44 jf fun S=>?_
  refine S.go 4 .nil fun ac w β S=>S.cJ (r:=jD x) (d:=48) (P_ w x ir (S.rd (S.arg hx))) fun ac w N Cg C_ S up lv d39=>?_
  clear up d39
  refine S.bo 5 .nil [GT.val (jD x) Cg,B true] fun ac w β S=>?_
  exact gb (p':=()) S (show(dS x aY want).1=(jD x) from mF) (show(dS x aY want).2=true from mF) rfl rfl lv trivial
 refine S.go 14 .nil fun ac w β S=>?_
 refine S.lt 44 jf fun S=>?_
 refine S.go 7 .nil fun ac w β S=>S.cJ (r:=a5 x) (d:=50) (p3 w x ir (S.rd (S.arg hx))) fun ac w N y6 mS S up jO d43=>?_
 clear up d43
 refine S.bo 5 .nil [GT.val (a5 x) y6,B true] fun ac w β S=>?_
 exact gb (p':=()) S (show(dS x aY want).1=(a5 x) from mF) (show(dS x aY want).2=true from mF) rfl rfl jO trivial
end Go.Proofs.YtjlocpdfcanlhaaGreat
