/- The walks: what each function that the laws reach computes (part 4). -/
import Derived.Test.YtmeoackmjdoecaaGreatA6
import Derived.Test.YtmeoackmjdoecaaGreatProg
import Derived.KernelRfl
namespace Go.Proofs.YtmeoackmjdoecaaGreat
open Go
set_option linter.unusedVariables false
set_option linter.unusedSimpArgs false
set_option maxRecDepth 100000
set_option maxHeartbeats 2000000
theorem Yj (w0:World) (b:a9) (aQ:ec) (hb:br w0 b aQ) (n:Int):Calls Tryz.prog 162 [GT.val b aQ,R n].toArray w0 (dZ aa w0 (dm b n:List Int)):=by
 refine Calls.run aa Tryz.func162 ?_
 intro ac β S
 have iD:b.mem.length<=4194304:=ag.le (b_.mem (d:=b) hb)
 have iW:b.U.length<=4194304:=ag.le (b_.U (d:=b) hb)
 have iX:b.outs.length<=4194304:=ag.le (b_.outs (d:=b) hb)
 refine S.go 8 .nil fun ac w β S=>S.gx (α:=Int) (d:=8) fun ac w N ae aX S up au d4=>?_
 clear up d4
 refine S.go 13 .nil fun ac w β S=>?_
 refine ek (fun bG ac w=>∃(k:Nat) (acc:List Int) (bZ:_) (b7:_) (u:_) (N:_) (β:_),bG=b.U.length-k/\(k<=b.U.length)/\(acc=j3 k (fun i=>tH (el b.U i).bH n))/\aj Tryz.prog Tryz.f162.ntmps w0 aa u N β ⟨[(1,.v (R n)),(5,.v (ab acc.length bZ.1)),(10,.v (ab b.U.length aQ.U.1)),(11,.v (R (b.U.length:Int))),(12,.v (R (k:Int)))],[GT.cells b aQ]⟩ ac w/\ai w0 aa u N b7 acc bZ) _ ⟨0,([]:List Int),ae,aX,_,_,_,rfl,cL,(by rfl),S.z,au⟩ ?_
 clear S au
 rintro f8 bG g0 ac w ⟨k,acc,bZ,b7,u,N,β,rfl,hk,cD,S,ak⟩
 refine S.rs fun S=>?_
 have lH:acc.length<=k:=by rw [cD];exact AM _ _
 refine S.a8 6 .nil (decide ((k:Int)<(b.U.length:Int))) (fun ac w β dq fM S=>?_) (fun ac w β dq fM S=>?_)
 ·refine S.bs 23 (.cons (cA (b_.U (d:=b) (S.arg hb)) k Tryz.underlying68) (.cons (dR (b_.U (d:=b) (S.arg hb)) 102 k) (.cons (aY fun w hw=>Yk w (el b.U k).bH n) .nil))) (tH (el b.U k).bH n) (fun ac w β eU S=>?_) (fun ac w β eU S=>?_)
  ·refine S.go 4 .nil fun ac w β S=>S.hB (α:=Int) (x:=(k:Int)) (p:=()) (F:=aa) ⟨by omega,by omega⟩ (fun b h=>False.elim h) (fun b h=>False.elim h) (d:=23) fun ac w N ic e3 S up aT d16=>?_
   replace ak:=ak.up up
   clear up d16
   refine S.kj (α:=Int) ak aT.al (fun _ _ h=>h) (by':=8) (d:=24) (lx:=acc.length) (ly:=1) rfl rfl (show _<=4194304 by simp only [List.length_append,List.length_cons,List.length_nil];omega) fun ac w N nB kT S up en d21=>?_
   clear up d21
   refine S.ge 8 (.cons (cO (k:Int) 1) .nil) f8 fun ac w β S=>g0.of (b.U.length-(k+1)) _ _ (by omega) ⟨k+1,(acc++[(k:Int)]),nB,kT,_,_,_,rfl,?_,?_,S.z,en⟩
   ·exact dn
   ·clear S;(first|(rw [pk (by first|assumption|(simp [*];done)|(simp;omega)),cD];done)|(rw [pj (by first|assumption|(simp [*];done)|(simp;omega)),cD];done)|(rw [pk (by simp_all<;>fail),cD];done)|(rw [pj (by simp_all<;>fail),cD];done))
  refine S.ge 8 (.cons (cO (k:Int) 1) .nil) f8 fun ac w β S=>g0.of (b.U.length-(k+1)) _ _ (by omega) ⟨k+1,acc,bZ,b7,_,_,_,rfl,?_,?_,S.z,ak⟩
  ·exact dn
  ·clear S;(first|(rw [pk (by first|assumption|(simp [*];done)|(simp;omega)),cD];done)|(rw [pj (by first|assumption|(simp [*];done)|(simp;omega)),cD];done)|(rw [pk (by simp_all<;>fail),cD];done)|(rw [pj (by simp_all<;>fail),cD];done))
 refine S.aP 13 .nil [ab acc.length bZ.1] fun ac w β S=>?_
 exact cT S (show dm b n=acc by clear S;(unfold dm;rw [cD,show b.U.length=k by omega])) rfl ak
theorem uh {p:Prop} (h:p:=by clear S;(first|(unfold iM;rw [if_neg (by simp_all)];done)|(unfold iM;rw [if_pos ⟨by assumption,by omega,by omega⟩];done)|(unfold iM;rw [if_pos ⟨by assumption,by omega,by omega⟩,show(dm b n).foldl (uY n) b.U=gs by rw [aJ,fj (by omega)],if_pos (by omega)];done)|(unfold iM;rw [if_pos ⟨by assumption,by omega,by omega⟩,show(dm b n).foldl (uY n) b.U=gs by rw [aJ,fj (by omega)],if_neg (by omega)];done))):p:=h
theorem Xv (w0:World) (b:a9) (aQ:ec) (hb:br w0 b aQ) (n:Int):Calls Tryz.prog 97 [GT.val b aQ,R n].toArray w0 (fG aa w0 ((iM b n).1:a9) ((iM b n).2:Bool)):=by
 refine Calls.run aa Tryz.func97 ?_
 intro ac β S
 have iD:b.mem.length<=4194304:=ag.le (b_.mem (d:=b) hb)
 have iW:b.U.length<=4194304:=ag.le (b_.U (d:=b) hb)
 have iX:b.outs.length<=4194304:=ag.le (b_.outs (d:=b) hb)
 refine S.go 10 .nil fun ac w β S=>S.ct (r:=b) (d:=11) (pU w b aQ (S.rd (S.arg hb))) fun ac w N ae aX S up au d4=>?_
 clear up d4
 have i14:aq b.av:=b_.av (d:=b) au.al
 obtain⟨de,eE,dy,a1,a6,aW,_,_,_,d15,d16,d17⟩:=wH au
 refine S.bs 11 (.cons (aY fun w hw=>zp w b aQ (cQ (S.arg hb) hw)) .nil) (!(hK b)) (fun ac w β h2 S=>?_) (fun ac w β h2 S=>?_)
 ·have mR:=cw h2
  refine S.aP 15 .nil [GT.val b ae,B false] fun ac w β S=>?_
  have en:=kN (x:=b) (p:=ae) a1 a6 aW d15 d16 d17 i14
  exact cB (p':=()) S uh uh rfl rfl en trivial
 have iU:=cl h2
 have o9:=zm iU
 refine S.bs 6 (.cons (aY fun w hw=>fU w n 0 7) .nil) (!(aS n 0 7)) (fun ac w β iC S=>?_) (fun ac w β iC S=>?_)
 ·have fR:=cw iC
  have ra:=dC fR
  refine S.aP 9 .nil [GT.val b ae,B false] fun ac w β S=>?_
  have gg:=kN (x:=b) (p:=ae) a1 a6 aW d15 d16 d17 i14
  exact cB (p':=()) S uh uh rfl rfl gg trivial
 have nj:=cl iC
 have xP:=cM nj
 refine S.go 7 .nil fun ac w β S=>S.ct (r:=dm b n) (d:=23) (Yj w b aQ (S.rd (S.arg hb)) n) fun ac w N jE mw S up fN d32=>?_
 have d34:=J.w d32 a6.sub
 replace a1:=a1.up up
 replace a6:=a6.up up
 replace aW:=aW.up up
 clear up d32
 refine S.go 12 .nil fun ac w β S=>?_
 refine ek (fun bG ac w=>∃(k:Nat) (gs:List az) (e6:_) (gy:_) (u:_) (N:_) (β:_),bG=(dm b n).length-k/\(k<=(dm b n).length)/\(gs=((dm b n).take k).foldl (uY n) b.U)/\(gs.length=b.U.length)/\aj Tryz.prog Tryz.f97.ntmps w0 aa u N β ⟨[(1,.v (R n)),(4,.p 1 0),(6,.p 2 0),(7,.v (ab (dm b n).length jE.1)),(24,.v (ab (dm b n).length jE.1)),(25,.v (R ((dm b n).length:Int))),(26,.v (R (k:Int)))],[GT.cells b aQ,c2 a9,[ab b.mem.length ae.mem.1,ab gs.length e6.1,ab b.outs.length ae.outs.1,R b.av]]⟩ ac w/\ai w0 aa u N gy gs e6/\ai w0 aa u N de b.mem ae.mem/\ai w0 aa u N dy b.outs ae.outs/\ai w0 aa u N mw (dm b n) jE/\J gy de/\J gy dy/\J gy mw) _ ⟨0,b.U,ae.U,eE,_,_,_,rfl,cL,(by rfl),(by rfl),S.z,a6,a1,aW,fN,(J.symm d15),d17,d34⟩ ?_
 clear S aW fN a1 a6
 rintro f42 bG aep ac w ⟨k,gs,e6,gy,u,N,β,rfl,hk,aJ,aps,S,gT,a1,aW,fN,d39,d40,d41⟩
 refine S.rs fun S=>?_
 have apy:=ai8 (b:=b) (n:=n) (k:=k) (by omega)
 have hpl:(dm b n).length<=b.U.length:=AM _ _
 refine S.a8 6 .nil (decide ((k:Int)<((dm b n).length:Int))) (fun ac w β sj abK S=>?_) (fun ac w β sj abK S=>?_)
 ·refine S.go 12 (.cons (cA fN.al k Tryz.underlying28) (.cons (cn fN.al 3 k) .nil)) fun ac w β S=>?_
  refine dj ?_
  let u3:bw:=⟨[(1,.v (R n)),(4,.p 1 0),(6,.p 2 0),(7,.v (ab (dm b n).length jE.1)),(9,.v (R (el (dm b n) k))),(24,.v (ab (dm b n).length jE.1)),(25,.v (R ((dm b n).length:Int))),(26,.v (R (k:Int)))],[GT.cells b aQ,c2 a9,[ab b.mem.length ae.mem.1,ab gs.length e6.1,ab b.outs.length ae.outs.1,R b.av]]⟩
  obtain⟨ba,a_,bg,S,gT,a1,aW,fN⟩:∃ba a_ bg,aj Tryz.prog Tryz.f97.ntmps w0 aa ba a_ bg u3 ac w/\ai w0 aa ba a_ gy gs e6/\ai w0 aa ba a_ de b.mem ae.mem/\ai w0 aa ba a_ dy b.outs ae.outs/\ai w0 aa ba a_ mw (dm b n) jE:=⟨_,_,_,S.z,gT,a1,aW,fN⟩
  refine lT (fun ac w=>∃ep jT u N β,aj Tryz.prog Tryz.f97.ntmps w0 aa u N β (u3.dl [9] [] 3 [(2,[ab b.mem.length ae.mem.1,ab (gs.set (el (dm b n) k).toNat ({el gs (el (dm b n) k).toNat with av:=(fr (el gs (el (dm b n) k).toNat).av n).1})).length ep.1,ab b.outs.length ae.outs.1,R b.av])]) ac w/\ai w0 aa u N de b.mem ae.mem/\ai w0 aa u N dy b.outs ae.outs/\ai w0 aa u N mw (dm b n) jE/\ai w0 aa u N jT (gs.set (el (dm b n) k).toNat ({el gs (el (dm b n) k).toNat with av:=(fr (el gs (el (dm b n) k).toNat).av n).1})) ep/\J de jT/\J dy jT/\J mw jT/\aq b.av) ?_ ?_
  ·refine S.df (f:=17) 16 (by kernel_rfl) (by kernel_rfl) fun w S=>?_
   refine S.hm 7 [0,1,2,3,4,5,6,7,8,9] [] [(32,.v (ab gs.length e6.1)),(33,.v (R (el (dm b n) k))),(39,.v (R (el gs (el (dm b n) k).toNat).av)),(40,.v (R n))] (.cons (cP gT.al (el (dm b n) k) Tryz.underlying68) (.cons (dG gT.al 3 ((el (dm b n) k).toNat) 8 (R (el gs (el (dm b n) k).toNat).av)) .nil)) fun ac S=>?_
   refine ao.mh fun W aO=>?_
   refine ao.l0 (l':=cc 17 [0,1,2,3,4,5,6,7,8,9]) (by kernel_rfl) ?_
   have adD ac w ep jT u N β (S:aj Tryz.prog Tryz.f97.ntmps w0 aa u N β (u3.dl [9] [] 3 [(2,[ab b.mem.length ae.mem.1,ab (gs.set (el (dm b n) k).toNat ({el gs (el (dm b n) k).toNat with av:=(fr (el gs (el (dm b n) k).toNat).av n).1})).length ep.1,ab b.outs.length ae.outs.1,R b.av])]) ac w) (a1:ai w0 aa u N de b.mem ae.mem) (aW:ai w0 aa u N dy b.outs ae.outs) (fN:ai w0 aa u N mw (dm b n) jE) (iF:ai w0 aa u N jT (gs.set (el (dm b n) k).toNat ({el gs (el (dm b n) k).toNat with av:=(fr (el gs (el (dm b n) k).toNat).av n).1})) ep) (d62:J de jT) (d63:J dy jT) (d64:J mw jT) (i47:aq b.av):W 0 (cc 17 [0,1,2,3,4,5,6,7,8,9,10,11,12,13,14,15,16]) ac w:=by
    exact mi aO ⟨rfl,ep,jT,_,_,_,S.z,a1,aW,fN,iF,d62,d63,d64,i47⟩
   have adF ac w u N β (S:aj Tryz.prog Tryz.f97.ntmps w0 aa u N β (u3.dl [9] [(42,.v (R (fr (el gs (el (dm b n) k).toNat).av n).1)),(45,.v (aM e6.1.b (e6.1.off+(el (dm b n) k).toNat*15+8)))] 3 []) ac w) (gT:ai w0 aa u N gy gs e6) (a1:ai w0 aa u N de b.mem ae.mem) (aW:ai w0 aa u N dy b.outs ae.outs) (fN:ai w0 aa u N mw (dm b n) jE) (i47:aq b.av) (an:cZ a_ ba N u) (aL:cr u3.ay.length bg β):W 1 (cc 17 [0,1,2,3,4,5,6,7,8,9,10,11,12,13,14,15]) ac w:=by
    refine eJ aO 16 ?_
    refine id (S.BH (α:=az) gT (t:=3) (k:=(el (dm b n) k).toNat) (j:=8) (off:=e6.1.off+(el (dm b n) k).toNat*15+8) (v:=R (fr (el gs (el (dm b n) k).toNat).av n).1) (y:=({el gs (el (dm b n) k).toNat with av:=(fr (el gs (el (dm b n) k).toNat).av n).1}:az)) (q:=(e6.2 (el (dm b n) k).toNat)) (fun G ha _=>⟨G,aiT ha (Lw (a5.av (d:=(el gs (el (dm b n) k).toNat)) (ag.el gT.al (el (dm b n) k).toNat (by omega)))),fun _ h=> .inl h⟩) fun w N ob yN S up nw d69 asa Ts=>?_)
    refine ao.b8 fun bx=>?_
    have d72:=d69 _ (J.symm d39) (fun b _ h=>False.elim h) a1.sub
    have d73:=d69 _ (J.symm d40) (fun b _ h=>False.elim h) aW.sub
    have d74:=d69 _ (J.symm d41) (fun b _ h=>False.elim h) fN.sub
    replace a1:=a1.bp (J.symm d39) up
    replace aW:=aW.bp (J.symm d40) up
    replace fN:=fN.bp (J.symm d41) up
    clear up d69 gT Ts
    have arf:(gs.set (el (dm b n) k).toNat ({el gs (el (dm b n) k).toNat with av:=(fr (el gs (el (dm b n) k).toNat).av n).1})).length=gs.length:=List.length_set
    replace S:=S.z (σ':=⟨[(1,.v (R n)),(4,.p 1 0),(6,.p 2 0),(7,.v (ab (dm b n).length jE.1)),(24,.v (ab (dm b n).length jE.1)),(25,.v (R ((dm b n).length:Int))),(26,.v (R (k:Int))),(42,.v (R (fr (el gs (el (dm b n) k).toNat).av n).1)),(45,.v (aM e6.1.b (e6.1.off+(el (dm b n) k).toNat*15+8)))],[GT.cells b aQ,c2 a9,[ab b.mem.length ae.mem.1,ab (gs.set (el (dm b n) k).toNat ({el gs (el (dm b n) k).toNat with av:=(fr (el gs (el (dm b n) k).toNat).av n).1})).length e6.1,ab b.outs.length ae.outs.1,R b.av]]⟩) (by rw [show(gs.set (el (dm b n) k).toNat ({el gs (el (dm b n) k).toNat with av:=(fr (el gs (el (dm b n) k).toNat).av n).1})).length=gs.length by omega]<;>kernel_rfl)
    exact S.dp aO [] bx fun _ S=>adD _ _ (e6.1,yN) ob _ _ _ S a1 aW fN nw d72 d73 d74 i47
   have adK ac w u N β (S:aj Tryz.prog Tryz.f97.ntmps w0 aa u N β (u3.dl [9] [(32,.v (ab gs.length e6.1)),(33,.v (R (el (dm b n) k))),(42,.v (R (fr (el gs (el (dm b n) k).toNat).av n).1))] 3 []) ac w) (gT:ai w0 aa u N gy gs e6) (a1:ai w0 aa u N de b.mem ae.mem) (aW:ai w0 aa u N dy b.outs ae.outs) (fN:ai w0 aa u N mw (dm b n) jE) (i47:aq b.av) (an:cZ a_ ba N u) (aL:cr u3.ay.length bg β):W 3 (cc 17 [0,1,2,3,4,5,6,7,8,9,10,11,12,13]) ac w:=by
    exact eJ aO 14 (S.fv aO an aL [15] (.cons (cP gT.al (el (dm b n) k) Tryz.underlying68) .nil) fun _ _ _ S bU=>adF _ _ _ _ _ S gT a1 aW fN i47 an bU)
   have an:cZ a_ ba a_ ba:=fun b h=>⟨h,rfl⟩
   have aL:cr u3.ay.length bg bg:=fun _ _=>rfl
   exact eJ aO 10 (S.fv aO an aL [11,12,13] (.cons (aY fun w hw=>Gd w (el gs (el (dm b n) k).toNat).av (a5.av (d:=(el gs (el (dm b n) k).toNat)) (ag.el gT.al (el (dm b n) k).toNat (by omega))) n) .nil) fun _ _ _ S bU=>adK _ _ _ _ _ S gT a1 aW fN i14 an bU)
  clear S gT a1 aW fN
  rintro ac w ⟨ep,jT,u,N,β,S,a1,aW,fN,iF,d77,d78,d79,i47⟩
  refine S.ex fun S=>?_
  refine S.ge 6 (.cons (cO (k:Int) 1) .nil) f42 fun ac w β S=>aep.of ((dm b n).length-(k+1)) _ _ (by omega) ⟨k+1,(gs.set (el (dm b n) k).toNat ({el gs (el (dm b n) k).toNat with av:=(fr (el gs (el (dm b n) k).toNat).av n).1})),ep,jT,_,_,_,rfl,?_,?_,?_,S.z,iF,a1,aW,fN,(J.symm d77),(J.symm d78),(J.symm d79)⟩
  ·exact dn
  ·clear S;(rw [zV (by omega),←aJ];rfl)
  ·clear S;(first|omega|(simp;omega))
 refine S.a8 14 .nil (((dm b n).length:Int)==0) (fun ac w β HL Ho S=>?_) (fun ac w β HL Ho S=>?_)
 ·refine S.aP 21 (.cons (aY fun w hw=>Gd w b.av i14 n) .nil) [GT.val (⟨b.mem,gs,b.outs,(fr b.av n).1⟩:a9) (⟨ae.mem,e6,ae.outs⟩:ec),B true] fun ac w β S=>?_
  have oK:=kN (x:=(⟨b.mem,gs,b.outs,(fr b.av n).1⟩:a9)) (p:=(⟨ae.mem,e6,ae.outs⟩:ec)) a1 gT aW (J.symm d39) d16 d40 (Lw i14)
  exact cB (p':=()) S uh uh rfl rfl oK trivial
 refine S.aP 11 .nil [GT.val (⟨b.mem,gs,b.outs,b.av⟩:a9) (⟨ae.mem,e6,ae.outs⟩:ec),B true] fun ac w β S=>?_
 have uF:=kN (x:=(⟨b.mem,gs,b.outs,b.av⟩:a9)) (p:=(⟨ae.mem,e6,ae.outs⟩:ec)) a1 gT aW (J.symm d39) d16 d40 i14
 exact cB (p':=()) S uh uh rfl rfl uF trivial
theorem X2 (w0:World) (b:a9) (aQ:ec) (hb:br w0 b aQ) (n:Int) (cA:af Int) (bc:br w0 [n] cA):Calls Tryz.prog 96 [GT.val b aQ,aM cA.1.b (cA.1.off+0*1)].toArray w0 (fG aa w0 ((iM b n).1:a9) ((iM b n).2:Bool)):=by
 refine Calls.run aa Tryz.func96 ?_
 intro ac β S
 have iD:b.mem.length<=4194304:=ag.le (b_.mem (d:=b) hb)
 have iW:b.U.length<=4194304:=ag.le (b_.U (d:=b) hb)
 have iX:b.outs.length<=4194304:=ag.le (b_.outs (d:=b) hb)
 refine S.go 11 (.cons (e8 (S.arg bc) (t:=3) (k:=0) (Nat.succ_pos 0) rfl (by kernel_rfl)) .nil) fun ac w β S=>S.fk (r:=(iM b n).1) (r':=(iM b n).2) (d:=7) (Xv w b aQ (S.rd (S.arg hb)) n) fun ac w N ae eP cR fQ S up cG a1 d7 d8 d9=>?_
 clear up d7
 clear d8
 refine S.aP 7 .nil [GT.val (iM b n).1 ae,B (iM b n).2] fun ac w β S=>?_
 exact cB (p':=()) S (show(iM b n).1=(iM b n).1 by clear S;rfl) (show(iM b n).2=(iM b n).2 by clear S;rfl) rfl rfl cG trivial
theorem sB {p:Prop} (h:p:=by clear S;(first|(rw [Xc (by assumption)];done)|(unfold iL;(repeat' split)<;>first|rfl|(exfalso;omega)|(exfalso;simp_all;done)|(exfalso;simp_all;omega)|(simp_all;done)))):p:=h
theorem Xm (w0:World) (b:a9) (aQ:ec) (hb:br w0 b aQ):Calls Tryz.prog 99 [GT.val b aQ].toArray w0 (qO aa w0 ((iL b).1:a9) ((iL b).2.1:Int) ((iL b).2.2:Bool)):=by
 refine Calls.run aa Tryz.func99 ?_
 intro ac β S
 have iD:b.mem.length<=4194304:=ag.le (b_.mem (d:=b) hb)
 have iW:b.U.length<=4194304:=ag.le (b_.U (d:=b) hb)
 have iX:b.outs.length<=4194304:=ag.le (b_.outs (d:=b) hb)
 refine S.go 11 .nil fun ac w β S=>S.ct (r:=b) (d:=10) (pU w b aQ (S.rd (S.arg hb))) fun ac w N ae aX S up au d4=>?_
 clear up d4
 have i14:aq b.av:=b_.av (d:=b) au.al
 obtain⟨de,eE,dy,a1,a6,aW,_,_,_,d15,d16,d17⟩:=wH au
 refine S.bs 25 (.cons (aY fun w hw=>Of w b.av (b_.av (d:=b) (S.arg hb))) (.cons (aY fun w hw=>zp w b aQ (cQ (S.arg hb) hw)) .nil)) (!(hK b)) (fun ac w β h2 S=>?_) (fun ac w β h2 S=>?_)
 ·have mR:=cw h2
  refine S.aP 15 .nil [GT.val b ae,R (-1),B false] fun ac w β S=>?_
  have en:=kN (x:=b) (p:=ae) a1 a6 aW d15 d16 d17 i14
  exact lq (p':=()) (p'':=()) S sB sB sB rfl rfl rfl en (show aq (-1) from⟨by decide,by decide⟩) trivial
 have iU:=cl h2
 have o9:=zm iU
 refine S.bs 5 .nil (!(fL b.av).2.2) (fun ac w β iC S=>?_) (fun ac w β iC S=>?_)
 ·have fR:=cw iC
  refine S.aP 10 .nil [GT.val b ae,R (-1),B false] fun ac w β S=>?_
  have eI:=kN (x:=b) (p:=ae) a1 a6 aW d15 d16 d17 i14
  exact lq (p':=()) (p'':=()) S sB sB sB rfl rfl rfl eI (show aq (-1) from⟨by decide,by decide⟩) trivial
 have iV:=cl iC
 refine S.aP 20 .nil [GT.val (⟨b.mem,b.U,b.outs,(fL b.av).1⟩:a9) (⟨ae.mem,ae.U,ae.outs⟩:ec),R (fL b.av).2.1,B true] fun ac w β S=>?_
 have cN:=kN (x:=(⟨b.mem,b.U,b.outs,(fL b.av).1⟩:a9)) (p:=(⟨ae.mem,ae.U,ae.outs⟩:ec)) a1 a6 aW d15 d16 d17 (U3 (b_.av (d:=b) (S.arg hb)))
 exact lq (p':=()) (p'':=()) S sB sB sB rfl rfl rfl cN aly trivial
theorem XN (w0:World) (F:aw) (b:a9) (aQ:ec) (Nk:aw) (hb:GT.rd bz Nk w0 b aQ) (bs:∀b,Nk b->b<w0.heap.size/\¬F b) (n:Int) (cA:af Int) (bc:GT.own bz F w0 [n] cA) (eb:∀b,F b->b<w0.heap.size):Calls Tryz.prog 98 [GT.val b aQ,aM cA.1.b (cA.1.off+0*1)].toArray w0 (ze F cA w0 ((er b).1:a9) ((er b).2:Bool) (iL b).2.1):=by
 refine Calls.run F Tryz.func98 ?_
 intro ac β S
 have on:ai w0 F w0 (ga w0.heap.size) F [n] cA:=⟨bc,eb,fun b hb=> .inr hb⟩
 have iD:b.mem.length<=4194304:=ag.le (b_.mem (d:=b) hb)
 have iW:b.U.length<=4194304:=ag.le (b_.U (d:=b) hb)
 have iX:b.outs.length<=4194304:=ag.le (b_.outs (d:=b) hb)
 refine S.go 10 .nil fun ac w β S=>S.zb (r:=(iL b).1) (r':=(iL b).2.1) (r'':=(iL b).2.2) (d:=10) (Xm w b aQ (S.rd (S.tj hb bs))) fun ac w N ae aX S up au d4 i5=>?_
 have d6:=J.w d4 on.sub
 replace on:=on.up up
 clear up d4
 refine S.go 13 .nil fun ac w β S=>S.kV (α:=Int) on (t:=3) (k:=0) (j:=0) (off:=cA.1.off+0*1) (v:=R (iL b).2.1) (y:=(iL b).2.1) (q:=()) (fun _ _ _=>⟨aa,i5,fun _ h=>False.elim h⟩) ?_ (hk:=(Nat.succ_pos 0))
 clear S;intro w N eE hg S up ak d10 s4 Tl
 replace au:=au.bp (J.symm d6) up
 have cJ:ai w0 F _ _ F [((iL b).2.1)] ((cA.1,hg):af Int):=⟨GT.fC ak.own (Nat.le_refl _) (fun b h=>(s4 b h).resolve_right id),fun b h=>Tl b (on.sub b h),on.cU⟩
 clear up d10 on ak s4 Tl
 refine S.aP 11 .nil [GT.val (iL b).1 ae,B (iL b).2.2] fun ac w β S=>?_
 exact Bp (p':=()) S (show(er b).1=(iL b).1 by clear S;rfl) (show(er b).2=(iL b).2.2 by clear S;rfl) (show(iL b).2.1=(iL b).2.1 by clear S;rfl) rfl rfl au trivial cJ (J.symm d6)
theorem uq {p:Prop} (h:p:=by clear S;(first|(unfold bP;rw [if_neg (by rintro⟨⟨h1,ah,aE⟩,b2⟩;first|omega|simp_all)];done)|(unfold bP;rw [if_pos ⟨⟨by assumption,by omega,by omega⟩,by assumption⟩];unfold mC;rw [←Cg (by omega)];done)|(unfold bP;rw [if_pos ⟨⟨by assumption,by omega,by omega⟩,by assumption⟩];done))):p:=h
theorem vi (w0:World) (h:ad) (aK:cK) (ax:br w0 h aK) (m:Int) (tK:Nat) (xg:Array Value) (r:a9×Bool) (xZ:callee Tryz.prog tK=true) (xV:∀{n:Nat} {u:World} {N:aw} {β:Nat->Nat} {σ:bw} {a:Act} {w:World} (S:aj Tryz.prog n w0 aa u N β σ a w) (aQ:ec),br w (aG h m) aQ->Calls Tryz.prog tK (GT.val (aG h m) aQ::xg.toList).toArray w (fG aa w (r.1:a9) (r.2:Bool))):Calls Tryz.prog 77 [GT.val h aK,R m,.func (.func tK) #[] xg].toArray w0 (fG aa w0 ((bP h m r).1:ad) ((bP h m r).2:Bool)):=by
 refine Calls.run aa Tryz.func77 ?_
 intro ac β S
 have gO:h.mem.length<=4194304:=ag.le (a4.mem (d:=h) ax)
 have gP:h.I.length<=4194304:=ag.le (a4.I (d:=h) ax)
 have gM:h.buf.length<=4194304:=ag.le (a4.buf (d:=h) ax)
 have gN:h.ar.length<=4194304:=ag.le (a4.ar (d:=h) ax)
 refine S.go 10 .nil fun ac w β S=>S.ct (r:=h) (d:=12) (hn w h aK (S.rd (S.arg ax))) fun ac w N ae aX S up au d4=>?_
 clear up d4
 obtain⟨de,eE,dy,e3,a1,a6,aW,aT,_,_,_,_,d17,d18,d19,d20,d21,d22⟩:=n5 au
 refine S.bs 11 (.cons (aY fun w hw=>tn w h aK (cQ (S.arg ax) hw)) .nil) (!(dg h)) (fun ac w β iC S=>?_) (fun ac w β iC S=>?_)
 ·have fR:=cw iC
  refine S.aP 18 .nil [GT.val h ae,B false] fun ac w β S=>?_
  have eI:=hz (x:=h) (p:=ae) a1 a6 aW aT d17 d18 d19 d20 d21 d22
  exact cB (p':=()) S uq uq rfl rfl eI trivial
 have iV:=cl iC
 have tQ:=oA iV
 refine S.bs 9 (.cons (aY fun w hw=>gJ w m (h.I.length:Int) (by omega)) .nil) (!(aS m 0 ((h.I.length:Int)-1))) (fun ac w β fo S=>?_) (fun ac w β fo S=>?_)
 ·have jv:=cw fo
  have sf:=dC jv
  refine S.aP 9 .nil [GT.val h ae,B false] fun ac w β S=>?_
  have fN:=hz (x:=h) (p:=ae) a1 a6 aW aT d17 d18 d19 d20 d21 d22
  exact cB (p':=()) S uq uq rfl rfl fN trivial
 have xT:=cl fo
 have Hi:=cM xT
 refine S.go 8 .nil fun ac w β S=>S.ct (r:=aG h m) (d:=29) (Cv w h aK (S.rd (S.arg ax)) m) fun ac w N fc kU S up hO d37=>?_
 replace a1:=a1.up up
 replace a6:=a6.up up
 replace aW:=aW.up up
 replace aT:=aT.up up
 clear up d37
 refine S.fk (r:=r.1) (r':=r.2) (d:=30) (xV S fc (S.rd hO.al)) (hcall:=NG xZ) fun ac w N kP mo lW wX S up jz sN d48 d49 d50=>?_
 have d57:=J.w d48 a6.sub
 replace a1:=a1.up up
 replace a6:=a6.up up
 replace aW:=aW.up up
 replace aT:=aT.up up
 clear up d48
 clear d49
 refine S.bs 14 .nil r.2 (fun ac w β qb S=>?_) (fun ac w β qb S=>?_)
 ·refine S.lt 10 qb fun S=>?_
  refine S.go 2 .nil fun ac w β S=>?_
  refine dj ?_
  refine S.df (f:=9) 8 (by kernel_rfl) (by kernel_rfl) fun w S=>?_
  refine S.hm 4 [0,1,2,3,4] [] [(35,.v (ab h.I.length ae.I.1)),(36,.v (R m)),(38,.v (ab r.1.U.length kP.U.1))] .nil fun ac S=>?_
  refine ao.one (i:=5) (by kernel_rfl) ?_
  refine id (S.cH 39 (zu w r.1.U kP.U (S.rd (b_.U (d:=r.1) jz.al))) fun ac w N s0 FD S up pz d65=>?_)
  refine ao.next S up (by kernel_rfl) ?_
  have d66:=J.w d65 a1.sub
  have d67:=J.w d65 a6.sub
  have d68:=J.w d65 aW.sub
  have d69:=J.w d65 aT.sub
  replace a1:=a1.up up
  replace a6:=a6.up up
  replace aW:=aW.up up
  replace aT:=aT.up up
  replace jz:=jz.up up
  clear up d65
  refine S.aI 6 [7,6] [] [(40,.v (aM ae.I.1.b (ae.I.1.off+m.toNat*9)))] (.cons (cP a6.al m Tryz.underlying34) .nil) fun ac S=>?_
  refine S.aI 7 [7] [] [(41,.v (aM ae.I.1.b (ae.I.1.off+m.toNat*9+3)))] .nil fun ac S=>?_
  refine ao.one (i:=8) (by kernel_rfl) ?_
  refine id (S.EW (α:=aZ) a6 (t:=68) (k:=m.toNat) (j:=3) (off:=ae.I.1.off+m.toNat*9+3) (v:=ab r.1.U.length s0.1) (y:=({el h.I m.toNat with U:=r.1.U}:aZ)) (q:=({ae.I.2 m.toNat with U:=s0}:g6)) (fun G ha j6=>⟨_,Ez ha pz.own (fun b h ah=>d67 b (j6 b h) ah),fun _ h=>h⟩) d67 pz.sub pz.cU fun w N td wC S up h_ d74 BG sJ=>?_)
  refine ao.last (by kernel_rfl) ?_
  have d77:=d74 _ d17 d66 a1.sub
  have d78:=d74 _ (J.symm d20) d68 aW.sub
  have d79:=d74 _ (J.symm d21) d69 aT.sub
  replace a1:=a1.bp d17 up
  replace aW:=aW.bp (J.symm d20) up
  replace aT:=aT.bp (J.symm d21) up
  replace jz:=jz.bp (J.symm d57) up
  clear up d74 a6 sJ
  have SZ:(h.I.set m.toNat ({el h.I m.toNat with U:=r.1.U})).length=h.I.length:=List.length_set
  replace S:=S.z (σ':=⟨[(1,.v (R m)),(6,.p 1 0),(8,.p 2 0),(9,.p 3 0),(10,.v (B true)),(39,.v (ab r.1.U.length s0.1)),(41,.v (aM ae.I.1.b (ae.I.1.off+m.toNat*9+3)))],[GT.cells h aK,c2 ad,[ab h.mem.length ae.mem.1,ab (h.I.set m.toNat ({el h.I m.toNat with U:=r.1.U})).length ae.I.1,ab h.buf.length ae.buf.1,ab h.ar.length ae.ar.1],GT.cells r.1 kP]⟩) (by rw [show(h.I.set m.toNat ({el h.I m.toNat with U:=r.1.U})).length=h.I.length by omega]<;>kernel_rfl)
  refine ao.done (by kernel_rfl) ?_ _
  refine S.ex fun S=>?_
  refine S.go 9 (.cons (cP h_.al m Tryz.underlying34) .nil) fun ac w β S=>S.kV (α:=aZ) h_ (t:=3) (k:=m.toNat) (j:=5) (off:=ae.I.1.off+m.toNat*9+5) (v:=R r.1.av) (y:=({el (h.I.set m.toNat ({el h.I m.toNat with U:=r.1.U})) m.toNat with av:=r.1.av}:aZ)) (q:=((ae.I.1,wC).2 m.toNat)) (fun G ha _=>⟨G,Lq ha (b_.av (d:=r.1) jz.al),fun _ h=> .inl h⟩) fun w N wY n2 S up oK d85 akX KM=>?_
  have d88:=d85 _ d77 (fun b _ h=>False.elim h) a1.sub
  have d89:=d85 _ d78 (fun b _ h=>False.elim h) aW.sub
  have d90:=d85 _ d79 (fun b _ h=>False.elim h) aT.sub
  replace a1:=a1.bp d77 up
  replace aW:=aW.bp d78 up
  replace aT:=aT.bp d79 up
  clear up d85 h_ KM
  have Kn:((h.I.set m.toNat ({el h.I m.toNat with U:=r.1.U})).set m.toNat ({el (h.I.set m.toNat ({el h.I m.toNat with U:=r.1.U})) m.toNat with av:=r.1.av})).length=(h.I.set m.toNat ({el h.I m.toNat with U:=r.1.U})).length:=List.length_set
  replace S:=S.z (σ':=⟨[(6,.p 1 0),(8,.p 2 0),(10,.v (B true)),(46,.v (R r.1.av)),(48,.v (aM ae.I.1.b (ae.I.1.off+m.toNat*9+5)))],[GT.cells h aK,c2 ad,[ab h.mem.length ae.mem.1,ab ((h.I.set m.toNat ({el h.I m.toNat with U:=r.1.U})).set m.toNat ({el (h.I.set m.toNat ({el h.I m.toNat with U:=r.1.U})) m.toNat with av:=r.1.av})).length ae.I.1,ab h.buf.length ae.buf.1,ab h.ar.length ae.ar.1],GT.cells r.1 kP]⟩) (by rw [show((h.I.set m.toNat ({el h.I m.toNat with U:=r.1.U})).set m.toNat ({el (h.I.set m.toNat ({el h.I m.toNat with U:=r.1.U})) m.toNat with av:=r.1.av})).length=(h.I.set m.toNat ({el h.I m.toNat with U:=r.1.U})).length by omega]<;>kernel_rfl)
  refine S.is fun S=>?_
  refine S.aP 11 .nil [GT.val (⟨h.mem,((h.I.set m.toNat ({el h.I m.toNat with U:=r.1.U})).set m.toNat ({el (h.I.set m.toNat ({el h.I m.toNat with U:=r.1.U})) m.toNat with av:=r.1.av})),h.buf,h.ar⟩:ad) (⟨ae.mem,(ae.I.1,n2),ae.buf,ae.ar⟩:cK),B true] fun ac w β S=>?_
  have sO:=hz (x:=(⟨h.mem,((h.I.set m.toNat ({el h.I m.toNat with U:=r.1.U})).set m.toNat ({el (h.I.set m.toNat ({el h.I m.toNat with U:=r.1.U})) m.toNat with av:=r.1.av})),h.buf,h.ar⟩:ad)) (p:=(⟨ae.mem,(ae.I.1,n2),ae.buf,ae.ar⟩:cK)) a1 oK aW aT d88 d18 d19 (J.symm d89) (J.symm d90) d22
  exact cB (p':=()) S uq uq rfl rfl sO trivial
 refine S.lt 10 qb fun S=>?_
 refine S.aP 12 .nil [GT.val h ae,B false] fun ac w β S=>?_
 have nx:=hz (x:=h) (p:=ae) a1 a6 aW aT d17 d18 d19 d20 d21 d22
 exact cB (p':=()) S uq uq rfl rfl nx trivial
theorem D5 {p:Prop} (h:p:=by clear S;(refine(congrArg Prod.fst (T4 h m page cell v)).symm.trans ?_;(first|(unfold bP;rw [if_neg (by rintro⟨⟨h1,ah,aE⟩,b2⟩;first|omega|simp_all)];done)|(unfold bP;rw [if_pos ⟨⟨by assumption,by omega,by omega⟩,by assumption⟩];unfold mC;rw [←Cg (by omega)];done)|(unfold bP;rw [if_pos ⟨⟨by assumption,by omega,by omega⟩,by assumption⟩];done)))):p:=h
theorem Ec {p:Prop} (h:p:=by clear S;(refine(congrArg Prod.snd (T4 h m page cell v)).symm.trans ?_;(first|(unfold bP;rw [if_neg (by rintro⟨⟨h1,ah,aE⟩,b2⟩;first|omega|simp_all)];done)|(unfold bP;rw [if_pos ⟨⟨by assumption,by omega,by omega⟩,by assumption⟩];unfold mC;rw [←Cg (by omega)];done)|(unfold bP;rw [if_pos ⟨⟨by assumption,by omega,by omega⟩,by assumption⟩];done)))):p:=h
theorem Yv (w0:World) (h:ad) (aK:cK) (ax:br w0 h aK) (m:Int) (page:Int) (hh:af Int) (dV:br w0 [page] hh) (cell:Int) (uS:af Int) (k2:br w0 [cell] uS) (v:Int) (mW:af Int) (bu:br w0 [v] mW):Calls Tryz.prog 77 [GT.val h aK,R m,.func (.func 93) #[] #[aM hh.1.b (hh.1.off+0*1),aM uS.1.b (uS.1.off+0*1),aM mW.1.b (mW.1.off+0*1)]].toArray w0 (fG aa w0 (h:ad) (nc h m page cell v:Bool)):=by
 refine Calls.run aa Tryz.func77 ?_
 intro ac β S
 have gO:h.mem.length<=4194304:=ag.le (a4.mem (d:=h) ax)
 have gP:h.I.length<=4194304:=ag.le (a4.I (d:=h) ax)
 have gM:h.buf.length<=4194304:=ag.le (a4.buf (d:=h) ax)
 have gN:h.ar.length<=4194304:=ag.le (a4.ar (d:=h) ax)
 refine S.go 10 .nil fun ac w β S=>S.ct (r:=h) (d:=12) (hn w h aK (S.rd (S.arg ax))) fun ac w N ae aX S up au d4=>?_
 clear up d4
 obtain⟨de,eE,dy,e3,a1,a6,aW,aT,_,_,_,_,d17,d18,d19,d20,d21,d22⟩:=n5 au
 refine S.bs 11 (.cons (aY fun w hw=>tn w h aK (cQ (S.arg ax) hw)) .nil) (!(dg h)) (fun ac w β iC S=>?_) (fun ac w β iC S=>?_)
 ·have fR:=cw iC
  refine S.aP 18 .nil [GT.val h ae,B false] fun ac w β S=>?_
  have eI:=hz (x:=h) (p:=ae) a1 a6 aW aT d17 d18 d19 d20 d21 d22
  exact cB (p':=()) S D5 Ec rfl rfl eI trivial
 have iV:=cl iC
 have tQ:=oA iV
 refine S.bs 9 (.cons (aY fun w hw=>gJ w m (h.I.length:Int) (by omega)) .nil) (!(aS m 0 ((h.I.length:Int)-1))) (fun ac w β fo S=>?_) (fun ac w β fo S=>?_)
 ·have jv:=cw fo
  have sf:=dC jv
  refine S.aP 9 .nil [GT.val h ae,B false] fun ac w β S=>?_
  have fN:=hz (x:=h) (p:=ae) a1 a6 aW aT d17 d18 d19 d20 d21 d22
  exact cB (p':=()) S D5 Ec rfl rfl fN trivial
 have xT:=cl fo
 have Hi:=cM xT
 refine S.go 8 .nil fun ac w β S=>S.ct (r:=aG h m) (d:=29) (Cv w h aK (S.rd (S.arg ax)) m) fun ac w N fc kU S up hO d37=>?_
 replace a1:=a1.up up
 replace a6:=a6.up up
 replace aW:=aW.up up
 replace aT:=aT.up up
 clear up d37
 refine S.fk (r:=(ew (aG h m) page cell v).1) (r':=(ew (aG h m) page cell v).2) (d:=30) (X0 w (aG h m) fc (S.rd hO.al) page hh (S.rd (S.arg dV)) cell uS (S.rd (S.arg k2)) v mW (S.rd (S.arg bu))) fun ac w N kP mo lW wX S up jz sN d48 d49 d50=>?_
 have d57:=J.w d48 a6.sub
 replace a1:=a1.up up
 replace a6:=a6.up up
 replace aW:=aW.up up
 replace aT:=aT.up up
 clear up d48
 clear d49
 refine S.bs 14 .nil (ew (aG h m) page cell v).2 (fun ac w β qb S=>?_) (fun ac w β qb S=>?_)
 ·refine S.lt 10 qb fun S=>?_
  refine S.go 2 .nil fun ac w β S=>?_
  refine dj ?_
  refine S.df (f:=9) 8 (by kernel_rfl) (by kernel_rfl) fun w S=>?_
  refine S.hm 4 [0,1,2,3,4] [] [(35,.v (ab h.I.length ae.I.1)),(36,.v (R m)),(38,.v (ab (ew (aG h m) page cell v).1.U.length kP.U.1))] .nil fun ac S=>?_
  refine ao.one (i:=5) (by kernel_rfl) ?_
  refine id (S.cH 39 (zu w (ew (aG h m) page cell v).1.U kP.U (S.rd (b_.U (d:=(ew (aG h m) page cell v).1) jz.al))) fun ac w N s0 FD S up pz d65=>?_)
  refine ao.next S up (by kernel_rfl) ?_
  have d66:=J.w d65 a1.sub
  have d67:=J.w d65 a6.sub
  have d68:=J.w d65 aW.sub
  have d69:=J.w d65 aT.sub
  replace a1:=a1.up up
  replace a6:=a6.up up
  replace aW:=aW.up up
  replace aT:=aT.up up
  replace jz:=jz.up up
  clear up d65
  refine S.aI 6 [7,6] [] [(40,.v (aM ae.I.1.b (ae.I.1.off+m.toNat*9)))] (.cons (cP a6.al m Tryz.underlying34) .nil) fun ac S=>?_
  refine S.aI 7 [7] [] [(41,.v (aM ae.I.1.b (ae.I.1.off+m.toNat*9+3)))] .nil fun ac S=>?_
  refine ao.one (i:=8) (by kernel_rfl) ?_
  refine id (S.EW (α:=aZ) a6 (t:=68) (k:=m.toNat) (j:=3) (off:=ae.I.1.off+m.toNat*9+3) (v:=ab (ew (aG h m) page cell v).1.U.length s0.1) (y:=({el h.I m.toNat with U:=(ew (aG h m) page cell v).1.U}:aZ)) (q:=({ae.I.2 m.toNat with U:=s0}:g6)) (fun G ha j6=>⟨_,Ez ha pz.own (fun b h ah=>d67 b (j6 b h) ah),fun _ h=>h⟩) d67 pz.sub pz.cU fun w N td wC S up h_ d74 BG sJ=>?_)
  refine ao.last (by kernel_rfl) ?_
  have d77:=d74 _ d17 d66 a1.sub
  have d78:=d74 _ (J.symm d20) d68 aW.sub
  have d79:=d74 _ (J.symm d21) d69 aT.sub
  replace a1:=a1.bp d17 up
  replace aW:=aW.bp (J.symm d20) up
  replace aT:=aT.bp (J.symm d21) up
  replace jz:=jz.bp (J.symm d57) up
  clear up d74 a6 sJ
  have SZ:(h.I.set m.toNat ({el h.I m.toNat with U:=(ew (aG h m) page cell v).1.U})).length=h.I.length:=List.length_set
  replace S:=S.z (σ':=⟨[(1,.v (R m)),(6,.p 1 0),(8,.p 2 0),(9,.p 3 0),(10,.v (B true)),(39,.v (ab (ew (aG h m) page cell v).1.U.length s0.1)),(41,.v (aM ae.I.1.b (ae.I.1.off+m.toNat*9+3)))],[GT.cells h aK,c2 ad,[ab h.mem.length ae.mem.1,ab (h.I.set m.toNat ({el h.I m.toNat with U:=(ew (aG h m) page cell v).1.U})).length ae.I.1,ab h.buf.length ae.buf.1,ab h.ar.length ae.ar.1],GT.cells (ew (aG h m) page cell v).1 kP]⟩) (by rw [show(h.I.set m.toNat ({el h.I m.toNat with U:=(ew (aG h m) page cell v).1.U})).length=h.I.length by omega]<;>kernel_rfl)
  refine ao.done (by kernel_rfl) ?_ _
  refine S.ex fun S=>?_
  refine S.go 9 (.cons (cP h_.al m Tryz.underlying34) .nil) fun ac w β S=>S.kV (α:=aZ) h_ (t:=3) (k:=m.toNat) (j:=5) (off:=ae.I.1.off+m.toNat*9+5) (v:=R (ew (aG h m) page cell v).1.av) (y:=({el (h.I.set m.toNat ({el h.I m.toNat with U:=(ew (aG h m) page cell v).1.U})) m.toNat with av:=(ew (aG h m) page cell v).1.av}:aZ)) (q:=((ae.I.1,wC).2 m.toNat)) (fun G ha _=>⟨G,Lq ha (b_.av (d:=(ew (aG h m) page cell v).1) jz.al),fun _ h=> .inl h⟩) fun w N wY n2 S up oK d85 akX KM=>?_
  have d88:=d85 _ d77 (fun b _ h=>False.elim h) a1.sub
  have d89:=d85 _ d78 (fun b _ h=>False.elim h) aW.sub
  have d90:=d85 _ d79 (fun b _ h=>False.elim h) aT.sub
  replace a1:=a1.bp d77 up
  replace aW:=aW.bp d78 up
  replace aT:=aT.bp d79 up
  clear up d85 h_ KM
  have Kn:((h.I.set m.toNat ({el h.I m.toNat with U:=(ew (aG h m) page cell v).1.U})).set m.toNat ({el (h.I.set m.toNat ({el h.I m.toNat with U:=(ew (aG h m) page cell v).1.U})) m.toNat with av:=(ew (aG h m) page cell v).1.av})).length=(h.I.set m.toNat ({el h.I m.toNat with U:=(ew (aG h m) page cell v).1.U})).length:=List.length_set
  replace S:=S.z (σ':=⟨[(6,.p 1 0),(8,.p 2 0),(10,.v (B true)),(46,.v (R (ew (aG h m) page cell v).1.av)),(48,.v (aM ae.I.1.b (ae.I.1.off+m.toNat*9+5)))],[GT.cells h aK,c2 ad,[ab h.mem.length ae.mem.1,ab ((h.I.set m.toNat ({el h.I m.toNat with U:=(ew (aG h m) page cell v).1.U})).set m.toNat ({el (h.I.set m.toNat ({el h.I m.toNat with U:=(ew (aG h m) page cell v).1.U})) m.toNat with av:=(ew (aG h m) page cell v).1.av})).length ae.I.1,ab h.buf.length ae.buf.1,ab h.ar.length ae.ar.1],GT.cells (ew (aG h m) page cell v).1 kP]⟩) (by rw [show((h.I.set m.toNat ({el h.I m.toNat with U:=(ew (aG h m) page cell v).1.U})).set m.toNat ({el (h.I.set m.toNat ({el h.I m.toNat with U:=(ew (aG h m) page cell v).1.U})) m.toNat with av:=(ew (aG h m) page cell v).1.av})).length=(h.I.set m.toNat ({el h.I m.toNat with U:=(ew (aG h m) page cell v).1.U})).length by omega]<;>kernel_rfl)
  refine S.is fun S=>?_
  refine S.aP 11 .nil [GT.val (⟨h.mem,((h.I.set m.toNat ({el h.I m.toNat with U:=(ew (aG h m) page cell v).1.U})).set m.toNat ({el (h.I.set m.toNat ({el h.I m.toNat with U:=(ew (aG h m) page cell v).1.U})) m.toNat with av:=(ew (aG h m) page cell v).1.av})),h.buf,h.ar⟩:ad) (⟨ae.mem,(ae.I.1,n2),ae.buf,ae.ar⟩:cK),B true] fun ac w β S=>?_
  have sO:=hz (x:=(⟨h.mem,((h.I.set m.toNat ({el h.I m.toNat with U:=(ew (aG h m) page cell v).1.U})).set m.toNat ({el (h.I.set m.toNat ({el h.I m.toNat with U:=(ew (aG h m) page cell v).1.U})) m.toNat with av:=(ew (aG h m) page cell v).1.av})),h.buf,h.ar⟩:ad)) (p:=(⟨ae.mem,(ae.I.1,n2),ae.buf,ae.ar⟩:cK)) a1 oK aW aT d88 d18 d19 (J.symm d89) (J.symm d90) d22
  exact cB (p':=()) S D5 Ec rfl rfl sO trivial
 refine S.lt 10 qb fun S=>?_
 refine S.aP 12 .nil [GT.val h ae,B false] fun ac w β S=>?_
 have nx:=hz (x:=h) (p:=ae) a1 a6 aW aT d17 d18 d19 d20 d21 d22
 exact cB (p':=()) S D5 Ec rfl rfl nx trivial
theorem ur {p:Prop} (h:p:=by clear S;(first|(unfold bP;rw [if_neg (by rintro⟨⟨h1,ah,aE⟩,b2⟩;first|omega|simp_all)];done)|(unfold bP;rw [if_pos ⟨⟨by assumption,by omega,by omega⟩,by assumption⟩];unfold mC;rw [←Cg (by omega)];done)|(unfold bP;rw [if_pos ⟨⟨by assumption,by omega,by omega⟩,by assumption⟩];done))):p:=h
theorem Eb {p:Prop} (h:p:=by clear S;(first|(unfold o5;rw [if_pos ⟨by assumption,by omega,by omega⟩];done)|(unfold o5;rw [if_neg (by rintro⟨h1,ah,aE⟩;first|omega|simp_all)];done))):p:=h
theorem Yu (w0:World) (F:aw) (h:ad) (aK:cK) (Nl:aw) (ax:GT.rd bz Nl w0 h aK) (Hq:∀b,Nl b->b<w0.heap.size/\¬F b) (m:Int) (n:Int) (cA:af Int) (bc:GT.own bz F w0 [n] cA) (eb:∀b,F b->b<w0.heap.size):Calls Tryz.prog 77 [GT.val h aK,R m,.func (.func 98) #[] #[aM cA.1.b (cA.1.off+0*1)]].toArray w0 (ze F cA w0 ((bP h m (er (aG h m))).1:ad) ((bP h m (er (aG h m))).2:Bool) (o5 h m n)):=by
 refine Calls.run F Tryz.func77 ?_
 intro ac β S
 have on:ai w0 F w0 (ga w0.heap.size) F [n] cA:=⟨bc,eb,fun b hb=> .inr hb⟩
 have gO:h.mem.length<=4194304:=ag.le (a4.mem (d:=h) ax)
 have gP:h.I.length<=4194304:=ag.le (a4.I (d:=h) ax)
 have gM:h.buf.length<=4194304:=ag.le (a4.buf (d:=h) ax)
 have gN:h.ar.length<=4194304:=ag.le (a4.ar (d:=h) ax)
 refine S.go 10 .nil fun ac w β S=>S.ct (r:=h) (d:=12) (hn w h aK (S.rd (S.tj ax Hq))) fun ac w N ae aX S up au d4=>?_
 have d5:=J.w d4 on.sub
 replace on:=on.up up
 clear up d4
 obtain⟨b7,bI,mY,kv,ak,eR,fa,dd,wF,s4,Bt,uX,d18,d19,d20,d21,d22,d23⟩:=n5 au
 refine S.bs 11 (.cons (aY fun w hw=>tn w h aK (cQ (S.tj ax Hq) hw)) .nil) (!(dg h)) (fun ac w β fR S=>?_) (fun ac w β fR S=>?_)
 ·have z5:=cw fR
  refine S.aP 18 .nil [GT.val h ae,B false] fun ac w β S=>?_
  have gg:=hz (x:=h) (p:=ae) ak eR fa dd d18 d19 d20 d21 d22 d23
  exact Bp (p':=()) S ur ur Eb rfl rfl gg trivial on (J.or (J.part (J.symm d5) wF) (J.or (J.part (J.symm d5) s4) (J.or (J.part (J.symm d5) Bt) (J.or (J.part (J.symm d5) uX) J.AZ))))
 have nj:=cl fR
 have xP:=oA nj
 refine S.bs 9 (.cons (aY fun w hw=>gJ w m (h.I.length:Int) (by omega)) .nil) (!(aS m 0 ((h.I.length:Int)-1))) (fun ac w β jv S=>?_) (fun ac w β jv S=>?_)
 ·have Dh:=cw jv
  have abH:=dC Dh
  refine S.aP 9 .nil [GT.val h ae,B false] fun ac w β S=>?_
  have eV:=hz (x:=h) (p:=ae) ak eR fa dd d18 d19 d20 d21 d22 d23
  exact Bp (p':=()) S ur ur Eb rfl rfl eV trivial on (J.or (J.part (J.symm d5) wF) (J.or (J.part (J.symm d5) s4) (J.or (J.part (J.symm d5) Bt) (J.or (J.part (J.symm d5) uX) J.AZ))))
 have nk:=cl jv
 have tR:=cM nk
 refine S.go 8 .nil fun ac w β S=>S.ct (r:=aG h m) (d:=29) (Cv w h aK (S.rd (S.tj ax Hq)) m) fun ac w N nD k8 S up eO d38=>?_
 have d39:=J.w d38 on.sub
 replace on:=on.up up
 replace ak:=ak.up up
 replace eR:=eR.up up
 replace fa:=fa.up up
 replace dd:=dd.up up
 clear up d38
 refine S.No (r:=(er (aG h m)).1) (r':=(er (aG h m)).2) (n':=(iL (aG h m)).2.1) (d:=30) on (XN w F (aG h m) nD k8 (GT.fb (S.hP eO)) (fun b hb=>⟨(S.sep b (eO.sub b hb)).1,(J.symm d39) b hb⟩) n cA (S.hP on) (fun b hb=>(S.sep b (on.sub b hb)).1)) fun ac w N rK sZ amQ arB S up px gh d50=>?_
 have d52:=J.w d50 eR.sub
 replace ak:=ak.bp (J.part (J.symm d5) wF) up
 replace eR:=eR.bp (J.part (J.symm d5) s4) up
 replace fa:=fa.bp (J.part (J.symm d5) Bt) up
 replace dd:=dd.bp (J.part (J.symm d5) uX) up
 clear up d50 on
 refine S.bs 14 .nil (er (aG h m)).2 (fun ac w β z7 S=>?_) (fun ac w β z7 S=>?_)
 ·refine S.lt 10 z7 fun S=>?_
  refine S.go 2 .nil fun ac w β S=>?_
  refine dj ?_
  refine S.df (f:=9) 8 (by kernel_rfl) (by kernel_rfl) fun w S=>?_
  refine S.hm 4 [0,1,2,3,4] [] [(35,.v (ab h.I.length ae.I.1)),(36,.v (R m)),(38,.v (ab (er (aG h m)).1.U.length rK.U.1))] .nil fun ac S=>?_
  refine ao.one (i:=5) (by kernel_rfl) ?_
  refine id (S.cH 39 (zu w (er (aG h m)).1.U rK.U (S.rd (b_.U (d:=(er (aG h m)).1) px.al))) fun ac w N ep jT S up dQ d62=>?_)
  refine ao.next S up (by kernel_rfl) ?_
  have d63:=J.w d62 ak.sub
  have d64:=J.w d62 eR.sub
  have d65:=J.w d62 fa.sub
  have d66:=J.w d62 dd.sub
  have d68:=J.w d62 gh.sub
  replace ak:=ak.up up
  replace eR:=eR.up up
  replace fa:=fa.up up
  replace dd:=dd.up up
  replace px:=px.up up
  replace gh:=gh.up up
  clear up d62
  refine S.aI 6 [7,6] [] [(40,.v (aM ae.I.1.b (ae.I.1.off+m.toNat*9)))] (.cons (cP eR.al m Tryz.underlying34) .nil) fun ac S=>?_
  refine S.aI 7 [7] [] [(41,.v (aM ae.I.1.b (ae.I.1.off+m.toNat*9+3)))] .nil fun ac S=>?_
  refine ao.one (i:=8) (by kernel_rfl) ?_
  refine id (S.EW (α:=aZ) eR (t:=68) (k:=m.toNat) (j:=3) (off:=ae.I.1.off+m.toNat*9+3) (v:=ab (er (aG h m)).1.U.length ep.1) (y:=({el h.I m.toNat with U:=(er (aG h m)).1.U}:aZ)) (q:=({ae.I.2 m.toNat with U:=ep}:g6)) (fun G ha j6=>⟨_,Ez ha dQ.own (fun b h ah=>d64 b (j6 b h) ah),fun _ h=>h⟩) d64 dQ.sub dQ.cU fun w N m0 yO S up oI d72 asb ag0=>?_)
  refine ao.last (by kernel_rfl) ?_
  have d75:=d72 _ d18 d63 ak.sub
  have d76:=d72 _ (J.symm d21) d65 fa.sub
  have d77:=d72 _ (J.symm d22) d66 dd.sub
  have d79:=d72 _ (J.symm (J.part (J.symm d5) s4)) d68 gh.sub
  replace ak:=ak.bp d18 up
  replace fa:=fa.bp (J.symm d21) up
  replace dd:=dd.bp (J.symm d22) up
  replace px:=px.bp (J.symm d52) up
  replace gh:=gh.bp (J.symm (J.part (J.symm d5) s4)) up
  clear up d72 eR ag0
  have af8:(h.I.set m.toNat ({el h.I m.toNat with U:=(er (aG h m)).1.U})).length=h.I.length:=List.length_set
  replace S:=S.z (σ':=⟨[(1,.v (R m)),(6,.p 1 0),(8,.p 2 0),(9,.p 3 0),(10,.v (B true)),(39,.v (ab (er (aG h m)).1.U.length ep.1)),(41,.v (aM ae.I.1.b (ae.I.1.off+m.toNat*9+3)))],[GT.cells h aK,c2 ad,[ab h.mem.length ae.mem.1,ab (h.I.set m.toNat ({el h.I m.toNat with U:=(er (aG h m)).1.U})).length ae.I.1,ab h.buf.length ae.buf.1,ab h.ar.length ae.ar.1],GT.cells (er (aG h m)).1 rK]⟩) (by rw [show(h.I.set m.toNat ({el h.I m.toNat with U:=(er (aG h m)).1.U})).length=h.I.length by omega]<;>kernel_rfl)
  refine ao.done (by kernel_rfl) ?_ _
  refine S.ex fun S=>?_
  refine S.go 9 (.cons (cP oI.al m Tryz.underlying34) .nil) fun ac w β S=>S.kV (α:=aZ) oI (t:=3) (k:=m.toNat) (j:=5) (off:=ae.I.1.off+m.toNat*9+5) (v:=R (er (aG h m)).1.av) (y:=({el (h.I.set m.toNat ({el h.I m.toNat with U:=(er (aG h m)).1.U})) m.toNat with av:=(er (aG h m)).1.av}:aZ)) (q:=((ae.I.1,yO).2 m.toNat)) (fun G ha _=>⟨G,Lq ha (b_.av (d:=(er (aG h m)).1) px.al),fun _ h=> .inl h⟩) fun w N am3 Bm S up qp d84 asc ag1=>?_
  have d87:=d84 _ d75 (fun b _ h=>False.elim h) ak.sub
  have d88:=d84 _ d76 (fun b _ h=>False.elim h) fa.sub
  have d89:=d84 _ d77 (fun b _ h=>False.elim h) dd.sub
  have d91:=d84 _ d79 (fun b _ h=>False.elim h) gh.sub
  replace ak:=ak.bp d75 up
  replace fa:=fa.bp d76 up
  replace dd:=dd.bp d77 up
  replace gh:=gh.bp d79 up
  clear up d84 oI ag1
  have Kn:((h.I.set m.toNat ({el h.I m.toNat with U:=(er (aG h m)).1.U})).set m.toNat ({el (h.I.set m.toNat ({el h.I m.toNat with U:=(er (aG h m)).1.U})) m.toNat with av:=(er (aG h m)).1.av})).length=(h.I.set m.toNat ({el h.I m.toNat with U:=(er (aG h m)).1.U})).length:=List.length_set
  replace S:=S.z (σ':=⟨[(6,.p 1 0),(8,.p 2 0),(10,.v (B true)),(46,.v (R (er (aG h m)).1.av)),(48,.v (aM ae.I.1.b (ae.I.1.off+m.toNat*9+5)))],[GT.cells h aK,c2 ad,[ab h.mem.length ae.mem.1,ab ((h.I.set m.toNat ({el h.I m.toNat with U:=(er (aG h m)).1.U})).set m.toNat ({el (h.I.set m.toNat ({el h.I m.toNat with U:=(er (aG h m)).1.U})) m.toNat with av:=(er (aG h m)).1.av})).length ae.I.1,ab h.buf.length ae.buf.1,ab h.ar.length ae.ar.1],GT.cells (er (aG h m)).1 rK]⟩) (by rw [show((h.I.set m.toNat ({el h.I m.toNat with U:=(er (aG h m)).1.U})).set m.toNat ({el (h.I.set m.toNat ({el h.I m.toNat with U:=(er (aG h m)).1.U})) m.toNat with av:=(er (aG h m)).1.av})).length=(h.I.set m.toNat ({el h.I m.toNat with U:=(er (aG h m)).1.U})).length by omega]<;>kernel_rfl)
  refine S.is fun S=>?_
  refine S.aP 11 .nil [GT.val (⟨h.mem,((h.I.set m.toNat ({el h.I m.toNat with U:=(er (aG h m)).1.U})).set m.toNat ({el (h.I.set m.toNat ({el h.I m.toNat with U:=(er (aG h m)).1.U})) m.toNat with av:=(er (aG h m)).1.av})),h.buf,h.ar⟩:ad) (⟨ae.mem,(ae.I.1,Bm),ae.buf,ae.ar⟩:cK),B true] fun ac w β S=>?_
  have sO:=hz (x:=(⟨h.mem,((h.I.set m.toNat ({el h.I m.toNat with U:=(er (aG h m)).1.U})).set m.toNat ({el (h.I.set m.toNat ({el h.I m.toNat with U:=(er (aG h m)).1.U})) m.toNat with av:=(er (aG h m)).1.av})),h.buf,h.ar⟩:ad)) (p:=(⟨ae.mem,(ae.I.1,Bm),ae.buf,ae.ar⟩:cK)) ak qp fa dd d87 d19 d20 (J.symm d88) (J.symm d89) d23
  exact Bp (p':=()) S ur ur Eb rfl rfl sO trivial gh (J.or (J.part (J.symm d5) wF) (J.or (J.symm d91) (J.or (J.part (J.symm d5) Bt) (J.or (J.part (J.symm d5) uX) J.AZ))))
 refine S.lt 10 z7 fun S=>?_
 refine S.aP 12 .nil [GT.val h ae,B false] fun ac w β S=>?_
 have nx:=hz (x:=h) (p:=ae) ak eR fa dd d18 d19 d20 d21 d22 d23
 exact Bp (p':=()) S ur ur Eb rfl rfl nx trivial gh (J.or (J.part (J.symm d5) wF) (J.or (J.part (J.symm d5) s4) (J.or (J.part (J.symm d5) Bt) (J.or (J.part (J.symm d5) uX) J.AZ))))
theorem X6 (w0:World) (h:ad) (aK:cK) (ax:br w0 h aK) (m:Int) (g:Int) (aJ:aq g) (page:Int) (dV:aq page) (s:aA) (hs:fx s):Calls Tryz.prog 30 [GT.val h aK,R m,R g,R page,GT.val s ()].toArray w0 (fG aa w0 ((mK h m g page s).1:ad) ((mK h m g page s).2:Bool)):=by
 refine Calls.run aa Tryz.func30 ?_
 intro ac β S
 have gO:h.mem.length<=4194304:=ag.le (a4.mem (d:=h) ax)
 have gP:h.I.length<=4194304:=ag.le (a4.I (d:=h) ax)
 have gM:h.buf.length<=4194304:=ag.le (a4.buf (d:=h) ax)
 have gN:h.ar.length<=4194304:=ag.le (a4.ar (d:=h) ax)
 have Ay:=aJ.b9;have Ar:=aJ.hi
 have rn:=dV.b9;have rm:=dV.hi
 refine S.go 11 .nil fun ac w β S=>?_
 refine S.h5 1 g () aJ fun β N bd aX S up au d4=>?_
 clear up d4
 refine S.h5 1 page () dV fun β N a3 b7 S up ak d8=>?_
 replace au:=au.up up
 clear up d8
 refine S.h5 1 s () hs fun β N pS dy S up aW d13=>?_
 replace au:=au.up up
 replace ak:=ak.up up
 clear up d13
 refine S.go 4 .nil fun ac w β S=>S.fk (r:=(bP h m (jd (aG h m) g page s)).1) (r':=(bP h m (jd (aG h m) g page s)).2) (d:=15) (vi w h aK (S.rd (S.arg ax)) m 78 #[aM (aB bd ():af Int).1.b ((aB bd ():af Int).1.off+0*1),aM (aB a3 ():af Int).1.b ((aB a3 ():af Int).1.off+0*1),aM (aB pS ():af aA).1.b ((aB pS ():af aA).1.off+0*2)] (jd (aG h m) g page s) rfl (fun bT aQ hb=>X7 _ (aG h m) aQ hb g (aB bd ():af Int) (bT.rd (bT.arg (S.rd au.al))) page (aB a3 ():af Int) (bT.rd (bT.arg (S.rd ak.al))) s (aB pS ():af aA) (bT.rd (bT.arg (S.rd aW.al))))) fun ac w N b3 mn lV kT S up en gS d22 d23 d24=>?_
 clear up d22
 clear d23
 refine S.aP 7 .nil [GT.val (bP h m (jd (aG h m) g page s)).1 b3,B (bP h m (jd (aG h m) g page s)).2] fun ac w β S=>?_
 exact cB (p':=()) S (show(mK h m g page s).1=(bP h m (jd (aG h m) g page s)).1 by clear S;rfl) (show(mK h m g page s).2=(bP h m (jd (aG h m) g page s)).2 by clear S;rfl) rfl rfl en trivial
theorem DY {p:Prop} (h:p:=by clear S;(first|(rw [aeT (by assumption)];done)|(rw [RG (by assumption)];done)|(rw [RG (by assumption)];simp [C7];done))):p:=h
theorem XU (w0:World) (h:ad) (aK:cK) (ax:br w0 h aK) (m:Int) (g:Int) (aJ:aq g) (page:Int) (dV:aq page):Calls Tryz.prog 31 [GT.val h aK,R m,R g,R page].toArray w0 (fG aa w0 ((kD h m g page).1:ad) ((kD h m g page).2:Bool)):=by
 refine Calls.run aa Tryz.func31 ?_
 intro ac β S
 have gO:h.mem.length<=4194304:=ag.le (a4.mem (d:=h) ax)
 have gP:h.I.length<=4194304:=ag.le (a4.I (d:=h) ax)
 have gM:h.buf.length<=4194304:=ag.le (a4.buf (d:=h) ax)
 have gN:h.ar.length<=4194304:=ag.le (a4.ar (d:=h) ax)
 have Ay:=aJ.b9;have Ar:=aJ.hi
 have rn:=dV.b9;have rm:=dV.hi
 refine S.go 10 .nil fun ac w β S=>?_
 refine S.h5 1 g () aJ fun β N bd aX S up au d4=>?_
 clear up d4
 refine S.h5 1 page () dV fun β N a3 b7 S up ak d8=>?_
 replace au:=au.up up
 clear up d8
 refine S.go 4 .nil fun ac w β S=>S.fk (r:=(bP h m (cV (aG h m) g page)).1) (r':=(bP h m (cV (aG h m) g page)).2) (d:=16) (vi w h aK (S.rd (S.arg ax)) m 80 #[aM (aB bd ():af Int).1.b ((aB bd ():af Int).1.off+0*1),aM (aB a3 ():af Int).1.b ((aB a3 ():af Int).1.off+0*1)] (cV (aG h m) g page) rfl (fun bT aQ hb=>XV _ (aG h m) aQ hb g (aB bd ():af Int) (bT.rd (bT.arg (S.rd au.al))) page (aB a3 ():af Int) (bT.rd (bT.arg (S.rd ak.al))))) fun ac w N dH oO mY fP S up cJ aT d16 d17 d18=>?_
 have d21:=J.w d16 au.sub
 have d22:=J.w d16 ak.sub
 replace au:=au.up up
 replace ak:=ak.up up
 clear up d16
 clear d17
 obtain⟨oa,eu,hS,nI,c4,cN,fh,gr,_,UH,_,_,d35,d36,d37,d38,d39,d40⟩:=n5 cJ
 refine S.bs 14 .nil (bP h m (cV (aG h m) g page)).2 (fun ac w β nQ S=>?_) (fun ac w β nQ S=>?_)
 ·have PH:=akm nQ
  refine S.lt 11 nQ fun S=>?_
  refine S.go 2 .nil fun ac w β S=>?_
  refine dj ?_
  refine S.df (f:=20) 19 (by kernel_rfl) (by kernel_rfl) fun w S=>?_
  refine S.hm 3 [0,1,2,3,4,5,6,7,8,9,10,11,12,13,14,15,16] [] [(25,.v (ab (el (bP h m (cV (aG h m) g page)).1.I m.toNat).tables.length (dH.I.2 m.toNat).tables.1)),(26,.v (R g)),(35,.v (GT.val (el (el (bP h m (cV (aG h m) g page)).1.I m.toNat).tables g.toNat) ((dH.I.2 m.toNat).tables.2 g.toNat))),(36,.v (R page))] (.cons (cP cN.al m Tryz.underlying34) (.cons (dG cN.al 69 m.toNat 7 (ab (el (bP h m (cV (aG h m) g page)).1.I m.toNat).tables.length (dH.I.2 m.toNat).tables.1)) (.cons (e8 au.al (t:=3) (k:=0) (Nat.succ_pos 0) rfl (by kernel_rfl)) (.cons (cP cN.al m Tryz.underlying34) (.cons (dG cN.al 69 m.toNat 7 (ab (el (bP h m (cV (aG h m) g page)).1.I m.toNat).tables.length (dH.I.2 m.toNat).tables.1)) (.cons (e8 au.al (t:=3) (k:=0) (Nat.succ_pos 0) rfl (by kernel_rfl)) (.cons (cP (bn.tables (d:=(el (bP h m (cV (aG h m) g page)).1.I m.toNat)) (ag.el cN.al m.toNat (by omega))) g Tryz.underlying69) (.cons (dR (bn.tables (d:=(el (bP h m (cV (aG h m) g page)).1.I m.toNat)) (ag.el cN.al m.toNat (by omega))) 105 g.toNat) (.cons (e8 ak.al (t:=3) (k:=0) (Nat.succ_pos 0) rfl (by kernel_rfl)) .nil))))))))) fun ac S=>?_
  refine ao.one (i:=17) (by kernel_rfl) ?_
  refine id (S.cH 37 (F8 w (el (el (bP h m (cV (aG h m) g page)).1.I m.toNat).tables g.toNat) ((dH.I.2 m.toNat).tables.2 g.toNat) (S.rd (ag.el (bn.tables (d:=(el (bP h m (cV (aG h m) g page)).1.I m.toNat)) (ag.el cN.al m.toNat (by omega))) g.toNat (by omega))) page) fun ac w N mo lW S up fu d46=>?_)
  refine ao.next S up (by kernel_rfl) ?_
  have d49:=J.w d46 c4.sub
  have d50:=J.w d46 cN.sub
  replace au:=au.up up
  replace ak:=ak.up up
  replace c4:=c4.up up
  replace cN:=cN.up up
  replace fh:=fh.up up
  replace gr:=gr.up up
  clear up d46
  refine S.aI 18 [18] [] [(38,.v (aM (dH.I.2 m.toNat).tables.1.b ((dH.I.2 m.toNat).tables.1.off+g.toNat*2)))] (.cons (cP (bn.tables (d:=(el (bP h m (cV (aG h m) g page)).1.I m.toNat)) (ag.el cN.al m.toNat (by omega))) g Tryz.underlying69) .nil) fun ac S=>?_
  refine ao.one (i:=19) (by kernel_rfl) ?_
  obtain⟨FA,wm,qy,NQ⟩:=zU cN (k:=m.toNat) (show m.toNat<(bP h m (cV (aG h m) g page)).1.I.length by omega)
  have SY:=ag.le wm.al
  have agX:=wm.sub
  refine id (S.n4 (α:=bO) wm (t:=105) (k:=g.toNat) (off:=(dH.I.2 m.toNat).tables.1.off+g.toNat*2) fu (J.symm (J.symm (J.part d50 qy))) fun w N jT pH S up lJ d62 akU Tr=>?_)
  refine ao.last (by kernel_rfl) ?_
  have d67:=d62 _ (J.symm (J.part (J.symm d35) qy)) d49 c4.sub
  replace au:=au.bp (J.symm (J.part (J.part (J.symm d21) UH) qy)) up
  replace ak:=ak.bp (J.symm (J.part (J.part (J.symm d22) UH) qy)) up
  replace c4:=c4.bp (J.symm (J.part (J.symm d35) qy)) up
  replace fh:=fh.bp (J.symm (J.part d38 qy)) up
  replace gr:=gr.bp (J.symm (J.part d39 qy)) up
  clear d62 wm
  obtain⟨TZ,h_,anF⟩:=NQ _ _ _ _ _ lW up lJ akU d50 (by show [ab _ _]=[ab _ _];rw [List.length_set]) (fun b h=>Tr b (agX b h))
  clear up lJ Tr
  have are:((bP h m (cV (aG h m) g page)).1.I.set m.toNat ({el (bP h m (cV (aG h m) g page)).1.I m.toNat with tables:=((el (bP h m (cV (aG h m) g page)).1.I m.toNat).tables.set g.toNat (gL (el (el (bP h m (cV (aG h m) g page)).1.I m.toNat).tables g.toNat) page))})).length=(bP h m (cV (aG h m) g page)).1.I.length:=List.length_set
  replace S:=S.z (σ':=⟨[(1,.v (R m)),(6,.v (aM (aB bd ():af Int).1.b ((aB bd ():af Int).1.off+0*1))),(7,.v (aM (aB a3 ():af Int).1.b ((aB a3 ():af Int).1.off+0*1))),(8,.p 1 0),(10,.p 2 0),(11,.v (B true)),(37,.v (GT.val (gL (el (el (bP h m (cV (aG h m) g page)).1.I m.toNat).tables g.toNat) page) mo)),(38,.v (aM (dH.I.2 m.toNat).tables.1.b ((dH.I.2 m.toNat).tables.1.off+g.toNat*2)))],[GT.cells h aK,c2 ad,[ab (bP h m (cV (aG h m) g page)).1.mem.length dH.mem.1,ab ((bP h m (cV (aG h m) g page)).1.I.set m.toNat ({el (bP h m (cV (aG h m) g page)).1.I m.toNat with tables:=((el (bP h m (cV (aG h m) g page)).1.I m.toNat).tables.set g.toNat (gL (el (el (bP h m (cV (aG h m) g page)).1.I m.toNat).tables g.toNat) page))})).length dH.I.1,ab (bP h m (cV (aG h m) g page)).1.buf.length dH.buf.1,ab (bP h m (cV (aG h m) g page)).1.ar.length dH.ar.1]]⟩) (by rw [show((bP h m (cV (aG h m) g page)).1.I.set m.toNat ({el (bP h m (cV (aG h m) g page)).1.I m.toNat with tables:=((el (bP h m (cV (aG h m) g page)).1.I m.toNat).tables.set g.toNat (gL (el (el (bP h m (cV (aG h m) g page)).1.I m.toNat).tables g.toNat) page))})).length=(bP h m (cV (aG h m) g page)).1.I.length by omega]<;>kernel_rfl)
  refine ao.done (by kernel_rfl) ?_ _
  refine S.ex fun S=>?_
  refine S.go 2 .nil fun ac w β S=>?_
  refine dj ?_
  refine S.df (f:=9) 8 (by kernel_rfl) (by kernel_rfl) fun w S=>?_
  refine S.hm 4 [0,1,2,3,5] [] [(40,.v (ab (bP h m (cV (aG h m) g page)).1.buf.length dH.buf.1)),(41,.v (R m)),(42,.v (R g)),(44,.v (R page))] (.cons (e8 au.al (t:=3) (k:=0) (Nat.succ_pos 0) rfl (by kernel_rfl)) (.cons (e8 ak.al (t:=3) (k:=0) (Nat.succ_pos 0) rfl (by kernel_rfl)) .nil)) fun ac S=>?_
  refine S.jk 4 [] [(43,.v (R (cq m g)))] 3 [] (.cons (aY fun w hw=>Cx w m g) .nil) fun ac w β S=>?_
  refine ao.one (i:=6) (by kernel_rfl) ?_
  refine id (S.cH 45 (Cp w (bP h m (cV (aG h m) g page)).1.buf dH.buf (S.rd fh.al) (cq m g) (yZ m g) page dV) fun ac w N oR y_ S up oJ d77=>?_)
  refine ao.next S up (by kernel_rfl) ?_
  have d80:=J.w d77 c4.sub
  have d83:=J.w d77 h_.sub
  replace au:=au.up up
  replace ak:=ak.up up
  replace c4:=c4.up up
  replace fh:=fh.up up
  replace gr:=gr.up up
  replace h_:=h_.up up
  clear up d77
  refine S.aI 7 [7] [] [(46,.p 2 2)] .nil fun ac S=>?_
  refine S.b8 8 [] [] 3 [(2,[ab (bP h m (cV (aG h m) g page)).1.mem.length dH.mem.1,ab ((bP h m (cV (aG h m) g page)).1.I.set m.toNat ({el (bP h m (cV (aG h m) g page)).1.I m.toNat with tables:=((el (bP h m (cV (aG h m) g page)).1.I m.toNat).tables.set g.toNat (gL (el (el (bP h m (cV (aG h m) g page)).1.I m.toNat).tables g.toNat) page))})).length dH.I.1,ab (ds (bP h m (cV (aG h m) g page)).1.buf (cq m g) page).length oR.1,ab (bP h m (cV (aG h m) g page)).1.ar.length dH.ar.1])] .nil fun ac w β S=>?_
  refine ao.done (by kernel_rfl) ?_ _
  refine S.ex fun S=>?_
  refine S.go 1 .nil fun ac w β S=>?_
  refine dj ?_
  refine S.df (f:=9) 8 (by kernel_rfl) (by kernel_rfl) fun w S=>?_
  refine S.hm 4 [0,1,2,3,5] [] [(48,.v (ab (bP h m (cV (aG h m) g page)).1.ar.length dH.ar.1)),(49,.v (R m)),(50,.v (R g)),(52,.v (R page))] (.cons (e8 au.al (t:=3) (k:=0) (Nat.succ_pos 0) rfl (by kernel_rfl)) (.cons (e8 ak.al (t:=3) (k:=0) (Nat.succ_pos 0) rfl (by kernel_rfl)) .nil)) fun ac S=>?_
  refine S.jk 4 [] [(51,.v (R (cq m g)))] 3 [] (.cons (aY fun w hw=>Cx w m g) .nil) fun ac w β S=>?_
  refine ao.one (i:=6) (by kernel_rfl) ?_
  refine id (S.cH 53 (Cp w (bP h m (cV (aG h m) g page)).1.ar dH.ar (S.rd gr.al) (cq m g) (yZ m g) page dV) fun ac w N n2 FH S up yA d87=>?_)
  refine ao.next S up (by kernel_rfl) ?_
  have d88:=J.w d87 c4.sub
  have d90:=J.w d87 h_.sub
  have d91:=J.w d87 oJ.sub
  replace c4:=c4.up up
  replace gr:=gr.up up
  replace h_:=h_.up up
  replace oJ:=oJ.up up
  clear up d87
  refine S.aI 7 [7] [] [(54,.p 2 3)] .nil fun ac S=>?_
  refine S.b8 8 [] [] 3 [(2,[ab (bP h m (cV (aG h m) g page)).1.mem.length dH.mem.1,ab ((bP h m (cV (aG h m) g page)).1.I.set m.toNat ({el (bP h m (cV (aG h m) g page)).1.I m.toNat with tables:=((el (bP h m (cV (aG h m) g page)).1.I m.toNat).tables.set g.toNat (gL (el (el (bP h m (cV (aG h m) g page)).1.I m.toNat).tables g.toNat) page))})).length dH.I.1,ab (ds (bP h m (cV (aG h m) g page)).1.buf (cq m g) page).length oR.1,ab (ds (bP h m (cV (aG h m) g page)).1.ar (cq m g) page).length n2.1])] .nil fun ac w β S=>?_
  refine ao.done (by kernel_rfl) ?_ _
  refine S.ex fun S=>?_
  refine S.aP 10 .nil [GT.val (⟨(bP h m (cV (aG h m) g page)).1.mem,((bP h m (cV (aG h m) g page)).1.I.set m.toNat ({el (bP h m (cV (aG h m) g page)).1.I m.toNat with tables:=((el (bP h m (cV (aG h m) g page)).1.I m.toNat).tables.set g.toNat (gL (el (el (bP h m (cV (aG h m) g page)).1.I m.toNat).tables g.toNat) page))})),(ds (bP h m (cV (aG h m) g page)).1.buf (cq m g) page),(ds (bP h m (cV (aG h m) g page)).1.ar (cq m g) page)⟩:ad) (⟨dH.mem,(dH.I.1,TZ),oR,n2⟩:cK),B true] fun ac w β S=>?_
  have Bc:=hz (x:=(⟨(bP h m (cV (aG h m) g page)).1.mem,((bP h m (cV (aG h m) g page)).1.I.set m.toNat ({el (bP h m (cV (aG h m) g page)).1.I m.toNat with tables:=((el (bP h m (cV (aG h m) g page)).1.I m.toNat).tables.set g.toNat (gL (el (el (bP h m (cV (aG h m) g page)).1.I m.toNat).tables g.toNat) page))})),(ds (bP h m (cV (aG h m) g page)).1.buf (cq m g) page),(ds (bP h m (cV (aG h m) g page)).1.ar (cq m g) page)⟩:ad)) (p:=(⟨dH.mem,(dH.I.1,TZ),oR,n2⟩:cK)) c4 h_ oJ yA (J.symm (J.or (J.symm d35) (J.symm d67))) d80 d88 d83 d90 d91
  exact cB (p':=()) S DY DY rfl rfl Bc trivial
 refine S.lt 11 nQ fun S=>?_
 refine S.aP 12 .nil [GT.val (bP h m (cV (aG h m) g page)).1 dH,B false] fun ac w β S=>?_
 have sO:=hz (x:=(bP h m (cV (aG h m) g page)).1) (p:=dH) c4 cN fh gr d35 d36 d37 d38 d39 d40
 exact cB (p':=()) S DY DY rfl rfl sO trivial
theorem XP (w0:World) (h:ad) (aK:cK) (ax:br w0 h aK) (m:Int) (g:Int) (aJ:aq g) (v:Int) (bu:aq v):Calls Tryz.prog 32 [GT.val h aK,R m,R g,R v].toArray w0 (fG aa w0 ((mG h m g v).1:ad) ((mG h m g v).2:Bool)):=by
 refine Calls.run aa Tryz.func32 ?_
 intro ac β S
 have gO:h.mem.length<=4194304:=ag.le (a4.mem (d:=h) ax)
 have gP:h.I.length<=4194304:=ag.le (a4.I (d:=h) ax)
 have gM:h.buf.length<=4194304:=ag.le (a4.buf (d:=h) ax)
 have gN:h.ar.length<=4194304:=ag.le (a4.ar (d:=h) ax)
 have Ay:=aJ.b9;have Ar:=aJ.hi
 have yc:=bu.b9;have x6:=bu.hi
 refine S.go 10 .nil fun ac w β S=>?_
 refine S.h5 1 g () aJ fun β N bd aX S up au d4=>?_
 clear up d4
 refine S.h5 1 v () bu fun β N a3 b7 S up ak d8=>?_
 replace au:=au.up up
 clear up d8
 refine S.go 4 .nil fun ac w β S=>S.fk (r:=(bP h m (jZ (aG h m) g v)).1) (r':=(bP h m (jZ (aG h m) g v)).2) (d:=13) (vi w h aK (S.rd (S.arg ax)) m 85 #[aM (aB bd ():af Int).1.b ((aB bd ():af Int).1.off+0*1),aM (aB a3 ():af Int).1.b ((aB a3 ():af Int).1.off+0*1)] (jZ (aG h m) g v) rfl (fun bT aQ hb=>XQ _ (aG h m) aQ hb g (aB bd ():af Int) (bT.rd (bT.arg (S.rd au.al))) v (aB a3 ():af Int) (bT.rd (bT.arg (S.rd ak.al))))) fun ac w N dH oO mY fP S up cJ aT d16 d17 d18=>?_
 clear up d16
 clear d17
 refine S.aP 7 .nil [GT.val (bP h m (jZ (aG h m) g v)).1 dH,B (bP h m (jZ (aG h m) g v)).2] fun ac w β S=>?_
 exact cB (p':=()) S (show(mG h m g v).1=(bP h m (jZ (aG h m) g v)).1 by clear S;rfl) (show(mG h m g v).2=(bP h m (jZ (aG h m) g v)).2 by clear S;rfl) rfl rfl cJ trivial
theorem X4 (w0:World) (h:ad) (aK:cK) (ax:br w0 h aK) (m:Int) (g:Int) (aJ:aq g):Calls Tryz.prog 33 [GT.val h aK,R m,R g].toArray w0 (fG aa w0 ((mJ h m g).1:ad) ((mJ h m g).2:Bool)):=by
 refine Calls.run aa Tryz.func33 ?_
 intro ac β S
 have gO:h.mem.length<=4194304:=ag.le (a4.mem (d:=h) ax)
 have gP:h.I.length<=4194304:=ag.le (a4.I (d:=h) ax)
 have gM:h.buf.length<=4194304:=ag.le (a4.buf (d:=h) ax)
 have gN:h.ar.length<=4194304:=ag.le (a4.ar (d:=h) ax)
 have Ay:=aJ.b9;have Ar:=aJ.hi
 refine S.go 9 .nil fun ac w β S=>?_
 refine S.h5 1 g () aJ fun β N bd aX S up au d4=>?_
 clear up d4
 refine S.go 4 .nil fun ac w β S=>S.fk (r:=(bP h m (j0 (aG h m) g)).1) (r':=(bP h m (j0 (aG h m) g)).2) (d:=11) (vi w h aK (S.rd (S.arg ax)) m 87 #[aM (aB bd ():af Int).1.b ((aB bd ():af Int).1.off+0*1)] (j0 (aG h m) g) rfl (fun bT aQ hb=>X5 _ (aG h m) aQ hb g (aB bd ():af Int) (bT.rd (bT.arg (S.rd au.al))))) fun ac w N bZ e7 ir eE S up a6 eR d11 d12 d13=>?_
 clear up d11
 clear d12
 refine S.aP 7 .nil [GT.val (bP h m (j0 (aG h m) g)).1 bZ,B (bP h m (j0 (aG h m) g)).2] fun ac w β S=>?_
 exact cB (p':=()) S (show(mJ h m g).1=(bP h m (j0 (aG h m) g)).1 by clear S;rfl) (show(mJ h m g).2=(bP h m (j0 (aG h m) g)).2 by clear S;rfl) rfl rfl a6 trivial
theorem XW (w0:World) (h:ad) (aK:cK) (ax:br w0 h aK) (m:Int) (g:Int) (aJ:aq g) (n:Int) (bc:aq n):Calls Tryz.prog 34 [GT.val h aK,R m,R g,R n].toArray w0 (fG aa w0 ((mH h m g n).1:ad) ((mH h m g n).2:Bool)):=by
 refine Calls.run aa Tryz.func34 ?_
 intro ac β S
 have gO:h.mem.length<=4194304:=ag.le (a4.mem (d:=h) ax)
 have gP:h.I.length<=4194304:=ag.le (a4.I (d:=h) ax)
 have gM:h.buf.length<=4194304:=ag.le (a4.buf (d:=h) ax)
 have gN:h.ar.length<=4194304:=ag.le (a4.ar (d:=h) ax)
 have Ay:=aJ.b9;have Ar:=aJ.hi
 have yb:=bc.b9;have x5:=bc.hi
 refine S.go 10 .nil fun ac w β S=>?_
 refine S.h5 1 g () aJ fun β N bd aX S up au d4=>?_
 clear up d4
 refine S.h5 1 n () bc fun β N a3 b7 S up ak d8=>?_
 replace au:=au.up up
 clear up d8
 refine S.go 4 .nil fun ac w β S=>S.fk (r:=(bP h m (jL (aG h m) g n)).1) (r':=(bP h m (jL (aG h m) g n)).2) (d:=13) (vi w h aK (S.rd (S.arg ax)) m 89 #[aM (aB bd ():af Int).1.b ((aB bd ():af Int).1.off+0*1),aM (aB a3 ():af Int).1.b ((aB a3 ():af Int).1.off+0*1)] (jL (aG h m) g n) rfl (fun bT aQ hb=>XX _ (aG h m) aQ hb g (aB bd ():af Int) (bT.rd (bT.arg (S.rd au.al))) n (aB a3 ():af Int) (bT.rd (bT.arg (S.rd ak.al))))) fun ac w N dH oO mY fP S up cJ aT d16 d17 d18=>?_
 clear up d16
 clear d17
 refine S.aP 7 .nil [GT.val (bP h m (jL (aG h m) g n)).1 dH,B (bP h m (jL (aG h m) g n)).2] fun ac w β S=>?_
 exact cB (p':=()) S (show(mH h m g n).1=(bP h m (jL (aG h m) g n)).1 by clear S;rfl) (show(mH h m g n).2=(bP h m (jL (aG h m) g n)).2 by clear S;rfl) rfl rfl cJ trivial
theorem XE (w0:World) (a:bV) (bR:dv a):Calls Tryz.prog 36 [GT.val a ()].toArray w0 (fun e w'=>e= .returned (GT.val (ih a) ())/\bX aa w0 w'):=by
 refine Calls.run aa Tryz.func36 ?_
 intro ac β S
 exact S.bb 20 (.cons (dY (s:=Instr.build 81 [(0,R a.x),(1,R a.y),(2,B (a.z==1))].toArray) (v:= .agg [R a.x,R a.y,B (a.z==1)].toArray) (fun w=>by kernel_rfl)) .nil) [GT.val (⟨a.x,a.y,(a.z==1)⟩:eM) ()] (mq (p:=()) (by clear S;rfl))
theorem XR (w0:World) (h:ad) (aK:cK) (ax:br w0 h aK) (m:Int) (g:Int) (aJ:aq g) (c:eM) (hc:hC c):Calls Tryz.prog 35 [GT.val h aK,R m,R g,GT.val c ()].toArray w0 (fG aa w0 ((iO h m g c).1:ad) ((iO h m g c).2:Bool)):=by
 refine Calls.run aa Tryz.func35 ?_
 intro ac β S
 have gO:h.mem.length<=4194304:=ag.le (a4.mem (d:=h) ax)
 have gP:h.I.length<=4194304:=ag.le (a4.I (d:=h) ax)
 have gM:h.buf.length<=4194304:=ag.le (a4.buf (d:=h) ax)
 have gN:h.ar.length<=4194304:=ag.le (a4.ar (d:=h) ax)
 have Ay:=aJ.b9;have Ar:=aJ.hi
 refine S.go 10 .nil fun ac w β S=>?_
 refine S.h5 1 g () aJ fun β N bd aX S up au d4=>?_
 clear up d4
 refine S.h5 1 c () hc fun β N a3 b7 S up ak d8=>?_
 replace au:=au.up up
 clear up d8
 refine S.go 4 .nil fun ac w β S=>S.fk (r:=(bP h m (jK (aG h m) g c)).1) (r':=(bP h m (jK (aG h m) g c)).2) (d:=13) (vi w h aK (S.rd (S.arg ax)) m 91 #[aM (aB bd ():af Int).1.b ((aB bd ():af Int).1.off+0*1),aM (aB a3 ():af eM).1.b ((aB a3 ():af eM).1.off+0*3)] (jK (aG h m) g c) rfl (fun bT aQ hb=>XS _ (aG h m) aQ hb g (aB bd ():af Int) (bT.rd (bT.arg (S.rd au.al))) c (aB a3 ():af eM) (bT.rd (bT.arg (S.rd ak.al))))) fun ac w N dH oO mY fP S up cJ aT d16 d17 d18=>?_
 clear up d16
 clear d17
 refine S.aP 7 .nil [GT.val (bP h m (jK (aG h m) g c)).1 dH,B (bP h m (jK (aG h m) g c)).2] fun ac w β S=>?_
 exact cB (p':=()) S (show(iO h m g c).1=(bP h m (jK (aG h m) g c)).1 by clear S;rfl) (show(iO h m g c).2=(bP h m (jK (aG h m) g c)).2 by clear S;rfl) rfl rfl cJ trivial
theorem DZ {p:Prop} (h:p:=by clear S;(first|(rw [RJ (by assumption)];done)|(rw [aeW (by assumption) (by assumption)];done))):p:=h
theorem XZ (w0:World) (h:ad) (aK:cK) (ax:br w0 h aK) (m:Int) (page:Int) (dV:aq page) (cell:Int) (k2:aq cell) (v:Int) (bu:aq v):Calls Tryz.prog 37 [GT.val h aK,R m,R page,R cell,R v].toArray w0 (fG aa w0 ((kZ h m page cell v).1:ad) ((kZ h m page cell v).2:Bool)):=by
 refine Calls.run aa Tryz.func37 ?_
 intro ac β S
 have gO:h.mem.length<=4194304:=ag.le (a4.mem (d:=h) ax)
 have gP:h.I.length<=4194304:=ag.le (a4.I (d:=h) ax)
 have gM:h.buf.length<=4194304:=ag.le (a4.buf (d:=h) ax)
 have gN:h.ar.length<=4194304:=ag.le (a4.ar (d:=h) ax)
 have rn:=dV.b9;have rm:=dV.hi
 have ap0:=k2.b9;have apt:=k2.hi
 have yc:=bu.b9;have x6:=bu.hi
 refine S.go 11 .nil fun ac w β S=>?_
 refine S.h5 1 page () dV fun β N bd aX S up au d4=>?_
 clear up d4
 refine S.h5 1 cell () k2 fun β N a3 b7 S up ak d8=>?_
 replace au:=au.up up
 clear up d8
 refine S.h5 1 v () bu fun β N pS dy S up aW d13=>?_
 replace au:=au.up up
 replace ak:=ak.up up
 clear up d13
 refine S.go 4 .nil fun ac w β S=>S.fk (r:=h) (r':=nc h m page cell v) (d:=18) (Yv w h aK (S.rd (S.arg ax)) m page (aB bd ():af Int) (S.rd au.al) cell (aB a3 ():af Int) (S.rd ak.al) v (aB pS ():af Int) (S.rd aW.al)) fun ac w N b3 mn lV kT S up en gS d22 d23 d24=>?_
 have d28:=J.w d22 au.sub
 have d29:=J.w d22 ak.sub
 have d30:=J.w d22 aW.sub
 replace au:=au.up up
 replace ak:=ak.up up
 replace aW:=aW.up up
 clear up d22
 clear d23
 refine S.go 10 .nil fun ac w β S=>?_
 refine S.w1 2 en fun β N qV nI S up gr d34=>?_
 have d35:=d34 _ d28 au.sub
 have d36:=d34 _ d29 ak.sub
 have d37:=d34 _ d30 aW.sub
 replace au:=au.up up
 replace ak:=ak.up up
 replace aW:=aW.up up
 clear up d34 en
 refine S.bs 4 .nil (nc h m page cell v) (fun ac w β sh S=>?_) (fun ac w β sh S=>?_)
 ·have Hl:=yH sh
  refine S.lt 13 sh fun S=>?_
  refine S.go 5 (.cons (e8 au.al (t:=3) (k:=0) (Nat.succ_pos 0) rfl (by kernel_rfl)) .nil) fun ac w β S=>S.o0 (d:=24) gr (Gh w h (aB qV b3:af ad) nI (S.hP gr) (fun b hb=>(S.sep b (gr.sub b hb)).1) m page 2 (by(first|assumption|exact(yH (by assumption)).1|omega))) fun ac w N kO oW S up kc d44 uc=>?_
  change (kO 0).I.1=((aB qV b3:af ad).2 0).I.1 at uc
  replace au:=au.bp d35 up
  replace ak:=ak.bp d36 up
  replace aW:=aW.bp d37 up
  clear up d44 gr
  obtain⟨hD,Qx⟩:∃z,z=(gA h m page 2):=⟨_,rfl⟩
  have il:ai w0 aa w N oW [hD] (((aB qV b3:af ad).1,kO):af ad):=by rw [Qx];exact kc
  clear kc
  have af2:=Te Qx (yH (by assumption)).1
  try dsimp only at af2
  refine S.go 2 .nil fun ac w β S=>?_
  refine dj ?_
  refine S.df (f:=17) 16 (by kernel_rfl) (by kernel_rfl) fun w S=>?_
  refine S.hm 3 [0,1,2,3,4,5,6,7,8,9,10,11,12,13] [] [(26,.v (ab hD.mem.length (kO 0).mem.1)),(36,.v (R (el (el hD.I m.toNat).outer page.toNat).page)),(37,.v (R cell)),(38,.v (R v))] (.cons (g7 il.al (t:=33) (k:=0) (j:=0) (v:=ab hD.mem.length (kO 0).mem.1) (Nat.succ_pos 0) (by kernel_rfl) (by kernel_rfl)) (.cons (g7 il.al (t:=34) (k:=0) (j:=1) (v:=ab hD.I.length (kO 0).I.1) (Nat.succ_pos 0) (by kernel_rfl) (by kernel_rfl)) (.cons (cP (di il.al) m Tryz.underlying34) (.cons (dG (di il.al) 66 m.toNat 0 (ab (el hD.I m.toNat).outer.length ((kO 0).I.2 m.toNat).outer.1)) (.cons (e8 au.al (t:=3) (k:=0) (Nat.succ_pos 0) rfl (by kernel_rfl)) (.cons (cP (bn.outer (d:=(el hD.I m.toNat)) (ag.el (di il.al) m.toNat (by omega))) page Tryz.underlying66) (.cons (dG (bn.outer (d:=(el hD.I m.toNat)) (ag.el (di il.al) m.toNat (by omega))) 3 page.toNat 0 (R (el (el hD.I m.toNat).outer page.toNat).page)) (.cons (e8 ak.al (t:=3) (k:=0) (Nat.succ_pos 0) rfl (by kernel_rfl)) (.cons (e8 aW.al (t:=3) (k:=0) (Nat.succ_pos 0) rfl (by kernel_rfl)) .nil))))))))) fun ac S=>?_
  refine ao.one (i:=14) (by kernel_rfl) ?_
  refine id (S.cH 39 (zt w hD.mem (kO 0).mem (S.rd (Gl il.al)) (el (el hD.I m.toNat).outer page.toNat).page cell v bu) fun ac w N oQ lX S up jA d56=>?_)
  refine ao.next S up (by kernel_rfl) ?_
  have d57:=J.w d56 il.sub
  replace il:=il.up up
  clear up d56
  refine S.aI 15 [15] [] [(40,.v (aM ((aB qV b3:af ad).1).b (((aB qV b3:af ad).1).off+0*4)))] .nil fun ac S=>?_
  refine ao.one (i:=16) (by kernel_rfl) ?_
  refine id (S.qz (α:=ad) il (t:=33) (v:=ab (gm hD.mem (el (el hD.I m.toNat).outer page.toNat).page cell v).length oQ.1) (k:=0) (j:=0) (off:=((aB qV b3:af ad).1).off+0*4) (y:=(⟨(gm hD.mem (el (el hD.I m.toNat).outer page.toNat).page cell v),hD.I,hD.buf,hD.ar⟩:ad)) (q:=({(kO 0) with mem:=oQ}:cK)) (Fy:=lX) (by kernel_rfl) (by kernel_rfl) (Nat.succ_pos 0) (by kernel_rfl) (by kernel_rfl) (Nat.le_of_ble_eq_true (by kernel_rfl)) (by kernel_rfl) (fun G ha j6=>⟨_,TJ ha jA.own (fun b h ah=>d57 b (j6 b h) ah),fun _ h=>h⟩) d57 jA.sub jA.cU fun w N FC S up iF d61 L5 Eo=>?_)
  refine ao.last (by kernel_rfl) ?_
  obtain⟨jF,pz,aqe⟩:∃jF:Nat->cK,ai w0 aa _ _ FC [(⟨(gm hD.mem (el (el hD.I m.toNat).outer page.toNat).page cell v),hD.I,hD.buf,hD.ar⟩:ad)] ((((aB qV b3:af ad).1),jF):af ad)/\(jF 0).I.1=(kO 0).I.1:=⟨_,iF,rfl⟩
  clear up d61 il iF L5 Eo
  refine ao.done (by kernel_rfl) ?_ _
  refine S.ex fun S=>?_
  refine S.aP 10 (.cons (hU pz.al (t:=37) (k:=0) (Nat.succ_pos 0) rfl (by kernel_rfl) (by kernel_rfl)) .nil) [GT.val (⟨(gm hD.mem (el (el hD.I m.toNat).outer page.toNat).page cell v),hD.I,hD.buf,hD.ar⟩:ad) (jF 0),B true] fun ac w β S=>?_
  obtain⟨B4,qn,_,_⟩:=kq pz (k:=0) (Nat.succ_pos 0)
  change ai w0 aa _ _ B4 (⟨(gm hD.mem (el (el hD.I m.toNat).outer page.toNat).page cell v),hD.I,hD.buf,hD.ar⟩:ad) (jF 0) at qn
  exact cB (p':=()) S DZ DZ rfl rfl qn trivial
 refine S.lt 13 sh fun S=>?_
 refine S.aP 12 (.cons (hU gr.al (t:=37) (k:=0) (Nat.succ_pos 0) rfl (by kernel_rfl) (by kernel_rfl)) .nil) [GT.val h ((aB qV b3:af ad).2 0),B false] fun ac w β S=>?_
 obtain⟨y9,uD,_,_⟩:=kq gr (k:=0) (Nat.succ_pos 0)
 change ai w0 aa _ _ y9 h ((aB qV b3:af ad).2 0) at uD
 exact cB (p':=()) S DZ DZ rfl rfl uD trivial
theorem X1 (w0:World) (h:ad) (aK:cK) (ax:br w0 h aK) (m:Int) (n:Int) (bc:aq n):Calls Tryz.prog 38 [GT.val h aK,R m,R n].toArray w0 (fG aa w0 ((mI h m n).1:ad) ((mI h m n).2:Bool)):=by
 refine Calls.run aa Tryz.func38 ?_
 intro ac β S
 have gO:h.mem.length<=4194304:=ag.le (a4.mem (d:=h) ax)
 have gP:h.I.length<=4194304:=ag.le (a4.I (d:=h) ax)
 have gM:h.buf.length<=4194304:=ag.le (a4.buf (d:=h) ax)
 have gN:h.ar.length<=4194304:=ag.le (a4.ar (d:=h) ax)
 have yb:=bc.b9;have x5:=bc.hi
 refine S.go 9 .nil fun ac w β S=>?_
 refine S.h5 1 n () bc fun β N bd aX S up au d4=>?_
 clear up d4
 refine S.go 4 .nil fun ac w β S=>S.fk (r:=(bP h m (iM (aG h m) n)).1) (r':=(bP h m (iM (aG h m) n)).2) (d:=11) (vi w h aK (S.rd (S.arg ax)) m 96 #[aM (aB bd ():af Int).1.b ((aB bd ():af Int).1.off+0*1)] (iM (aG h m) n) rfl (fun bT aQ hb=>X2 _ (aG h m) aQ hb n (aB bd ():af Int) (bT.rd (bT.arg (S.rd au.al))))) fun ac w N bZ e7 ir eE S up a6 eR d11 d12 d13=>?_
 clear up d11
 clear d12
 refine S.aP 7 .nil [GT.val (bP h m (iM (aG h m) n)).1 bZ,B (bP h m (iM (aG h m) n)).2] fun ac w β S=>?_
 exact cB (p':=()) S (show(mI h m n).1=(bP h m (iM (aG h m) n)).1 by clear S;rfl) (show(mI h m n).2=(bP h m (iM (aG h m) n)).2 by clear S;rfl) rfl rfl a6 trivial
theorem XM (w0:World) (h:ad) (aK:cK) (ax:br w0 h aK) (m:Int):Calls Tryz.prog 39 [GT.val h aK,R m].toArray w0 (qO aa w0 ((h6 h m).1:ad) ((h6 h m).2.1:Int) ((h6 h m).2.2:Bool)):=by
 refine Calls.run aa Tryz.func39 ?_
 intro ac β S
 have gO:h.mem.length<=4194304:=ag.le (a4.mem (d:=h) ax)
 have gP:h.I.length<=4194304:=ag.le (a4.I (d:=h) ax)
 have gM:h.buf.length<=4194304:=ag.le (a4.buf (d:=h) ax)
 have gN:h.ar.length<=4194304:=ag.le (a4.ar (d:=h) ax)
 refine S.go 15 .nil fun ac w β S=>?_
 refine S.h5 2 (-1) () (show aq (-1) from⟨by decide,by decide⟩) fun β N bd aX S up au d4=>?_
 clear up d4
 refine S.go 4 .nil fun ac w β S=>S.No (r:=(bP h m (er (aG h m))).1) (r':=(bP h m (er (aG h m))).2) (n':=o5 h m (-1)) (d:=14) au (Yu w aX h aK (fun b=>b<w0.heap.size) (S.aiF ax) (fun b hb=>⟨Nat.lt_of_lt_of_le hb S.ed.size,fun bm=>Nat.not_lt_of_le ((au.cU b bm).resolve_right id) hb⟩) m (-1) (aB bd ():af Int) (S.hP au) (fun b hb=>(S.sep b (au.sub b hb)).1)) fun ac w N bZ e7 ir EE S up a6 eR d11=>?_
 clear up d11 au
 have i13:aq (o5 h m (-1)):=ag.el eR.al 0 (Nat.succ_pos 0)
 refine S.go 9 .nil fun ac w β S=>?_
 refine dj ?_
 refine S.df (f:=6) 3 (by kernel_rfl) (by kernel_rfl) fun w S=>?_
 refine S.aI 0 [0] [] [(17,.v (GT.val (bP h m (er (aG h m))).1 bZ))] .nil fun ac S=>?_
 refine S.wL ⟨[(4,.p 1 0),(5,.v (R (o5 h m (-1)))),(6,.v (B (bP h m (er (aG h m))).2))],[GT.cells h aK,GT.cells (bP h m (er (aG h m))).1 bZ]⟩ 8 (.cons 1 (e8 eR.al (t:=3) (k:=0) (Nat.succ_pos 0) rfl (by kernel_rfl)) .nil) fun ac w β S=>?_
 refine S.ex fun S=>?_
 refine S.aP 2 .nil [GT.val (bP h m (er (aG h m))).1 bZ,R (o5 h m (-1)),B (bP h m (er (aG h m))).2] fun ac w β S=>?_
 exact lq (p':=()) (p'':=()) S (show(h6 h m).1=(bP h m (er (aG h m))).1 by clear S;(first|rfl|(unfold h6;rfl))) (show(h6 h m).2.1=o5 h m (-1) by clear S;(first|rfl|(unfold h6;rfl))) (show(h6 h m).2.2=(bP h m (er (aG h m))).2 by clear S;(first|rfl|(unfold h6;rfl))) rfl rfl rfl a6 i13 trivial
theorem Cr (w0:World) (h:ad) (aK:cK) (ax:br w0 h aK) (m:Int) (g:Int) (page:Int) (dV:aq page) (need:Int):Calls Tryz.prog 100 [GT.val h aK,R m,R g,R page,R need].toArray w0 (qO aa w0 ((bk h m g page need true).1:ad) ((bk h m g page need true).2.1:Int) ((bk h m g page need true).2.2:Bool)):=by
 refine Calls.run aa Tryz.func100 ?_
 intro ac β S
 have gO:h.mem.length<=4194304:=ag.le (a4.mem (d:=h) ax)
 have gP:h.I.length<=4194304:=ag.le (a4.I (d:=h) ax)
 have gM:h.buf.length<=4194304:=ag.le (a4.buf (d:=h) ax)
 have gN:h.ar.length<=4194304:=ag.le (a4.ar (d:=h) ax)
 have rn:=dV.b9;have rm:=dV.hi
 refine S.go 15 .nil fun ac w β S=>S.zb (r:=(bk h m g page need true).1) (r':=(bk h m g page need true).2.1) (r'':=(bk h m g page need true).2.2) (d:=18) (Yt w h aK (S.rd (S.arg ax)) m g page dV need true (by rfl)) fun ac w N ae aX S up au d4 i5=>?_
 clear up d4
 refine S.aP 9 .nil [GT.val (bk h m g page need true).1 ae,R (bk h m g page need true).2.1,B (bk h m g page need true).2.2] fun ac w β S=>?_
 exact lq (p':=()) (p'':=()) S (show(bk h m g page need true).1=(bk h m g page need true).1 by clear S;rfl) (show(bk h m g page need true).2.1=(bk h m g page need true).2.1 by clear S;rfl) (show(bk h m g page need true).2.2=(bk h m g page need true).2.2 by clear S;rfl) rfl rfl rfl au i5 trivial
theorem ui {p:Prop} (h:p:=by clear S;(first|(rw [zO (.inl (by assumption))];done)|(rw [zO (.inr (.inl (by assumption)))];done)|(rw [zO (.inr (.inr (by assumption)))];done)|(rw [OY rfl (by assumption)];done)|(rw [OY (by assumption) (by assumption)];done)|(rw [OZ rfl (by assumption) (by assumption) (by assumption)];done)|(rw [OZ (by assumption) (by assumption) (by assumption) (by assumption)];done))):p:=h
theorem XT (w0:World) (h:ad) (aK:cK) (ax:br w0 h aK) (m:Int) (g:Int) (addr:Int) (kr:aq addr) (v:Int) (bu:aq v):Calls Tryz.prog 40 [GT.val h aK,R m,R g,R addr,R v].toArray w0 (fG aa w0 ((kC h m g addr v).1:ad) ((kC h m g addr v).2:Bool)):=by
 refine Calls.run aa Tryz.func40 ?_
 intro ac β S
 have gO:h.mem.length<=4194304:=ag.le (a4.mem (d:=h) ax)
 have gP:h.I.length<=4194304:=ag.le (a4.I (d:=h) ax)
 have gM:h.buf.length<=4194304:=ag.le (a4.buf (d:=h) ax)
 have gN:h.ar.length<=4194304:=ag.le (a4.ar (d:=h) ax)
 have Ja:=kr.b9;have I5:=kr.hi
 have yc:=bu.b9;have x6:=bu.hi
 refine S.go 8 .nil fun ac w β S=>?_
 refine dj ?_
 let bf:bw:=⟨[(1,.v (R m)),(2,.v (R g)),(3,.v (R addr)),(4,.v (R v)),(5,.p 0 0),(10,.p 1 0)],[GT.cells h aK,c2 ad]⟩
 obtain⟨ba,a_,bg,S⟩:∃ba a_ bg,aj Tryz.prog Tryz.f40.ntmps w0 aa ba a_ bg bf ac w:=⟨_,_,_,S.z⟩
 refine lT (fun ac w=>∃jj jb e6 gy g2 gW fI fZ u N β,aj Tryz.prog Tryz.f40.ntmps w0 aa u N β (bf.dl [1,2] [(12,.p 2 0),(13,.v (R (bk h m g (a7 addr) 2 true).2.1)),(14,.v (B (bk h m g (a7 addr) 2 true).2.2))] 3 [(2,[ab (bk h m g (a7 addr) 2 true).1.mem.length g2.1,ab (bk h m g (a7 addr) 2 true).1.I.length fI.1,ab (bk h m g (a7 addr) 2 true).1.buf.length jj.1,ab (bk h m g (a7 addr) 2 true).1.ar.length e6.1])]) ac w/\ai w0 aa u N jb (bk h m g (a7 addr) 2 true).1.buf jj/\ai w0 aa u N gy (bk h m g (a7 addr) 2 true).1.ar e6/\ai w0 aa u N gW (bk h m g (a7 addr) 2 true).1.mem g2/\ai w0 aa u N fZ (bk h m g (a7 addr) 2 true).1.I fI/\J jb gy/\J jb gW/\J jb fZ/\J gy gW/\J gy fZ/\J gW fZ/\aq (bk h m g (a7 addr) 2 true).2.1) ?_ ?_
 ·refine S.df (f:=14) 11 (by kernel_rfl) (by kernel_rfl) fun w S=>?_
  refine S.hm 10 [0,1,2,3] [] [(16,.v (GT.val h aK)),(17,.v (R m)),(18,.v (R g)),(19,.v (R addr))] .nil fun ac S=>?_
  refine ao.mh fun W aO=>?_
  refine ao.l0 (l':=cc 14 [0,1,2,3]) (by kernel_rfl) ?_
  have ao6 ac w jj jb e6 gy g2 gW fI fZ u N β (S:aj Tryz.prog Tryz.f40.ntmps w0 aa u N β (bf.dl [1,2] [(12,.p 2 0),(13,.v (R (bk h m g (a7 addr) 2 true).2.1)),(14,.v (B (bk h m g (a7 addr) 2 true).2.2))] 3 [(2,[ab (bk h m g (a7 addr) 2 true).1.mem.length g2.1,ab (bk h m g (a7 addr) 2 true).1.I.length fI.1,ab (bk h m g (a7 addr) 2 true).1.buf.length jj.1,ab (bk h m g (a7 addr) 2 true).1.ar.length e6.1])]) ac w) (eV:ai w0 aa u N jb (bk h m g (a7 addr) 2 true).1.buf jj) (jy:ai w0 aa u N gy (bk h m g (a7 addr) 2 true).1.ar e6) (gg:ai w0 aa u N gW (bk h m g (a7 addr) 2 true).1.mem g2) (hq:ai w0 aa u N fZ (bk h m g (a7 addr) 2 true).1.I fI) (d64:J jb gy) (d65:J jb gW) (d66:J jb fZ) (d67:J gy gW) (d68:J gy fZ) (d69:J gW fZ) (i38:aq (bk h m g (a7 addr) 2 true).2.1):W 0 (cc 14 [0,1,2,3,4,5,6,7,8,9,10,11,12,13]) ac w:=by
   exact mi aO ⟨rfl,jj,jb,e6,gy,g2,gW,fI,fZ,_,_,_,S.z,eV,jy,gg,hq,d64,d65,d66,d67,d68,d69,i38⟩
  have H0 ac w jj jb e6 gy g2 gW fI fZ u N β (S:aj Tryz.prog Tryz.f40.ntmps w0 aa u N β (bf.dl [1,2] [(12,.p 2 0),(22,.v (GT.val (bk h m g (a7 addr) 2 true).1 (⟨g2,fI,jj,e6⟩:cK))),(23,.v (R (bk h m g (a7 addr) 2 true).2.1)),(24,.v (B (bk h m g (a7 addr) 2 true).2.2))] 3 [(2,c2 ad)]) ac w) (eV:ai w0 aa u N jb (bk h m g (a7 addr) 2 true).1.buf jj) (jy:ai w0 aa u N gy (bk h m g (a7 addr) 2 true).1.ar e6) (gg:ai w0 aa u N gW (bk h m g (a7 addr) 2 true).1.mem g2) (hq:ai w0 aa u N fZ (bk h m g (a7 addr) 2 true).1.I fI) (d71:J jb gy) (d72:J jb gW) (d73:J jb fZ) (d74:J gy gW) (d75:J gy fZ) (d76:J gW fZ) (i38:aq (bk h m g (a7 addr) 2 true).2.1) (an:cZ a_ ba N u) (aL:cr bf.ay.length bg β):W 3 (cc 14 [0,1,2,3,4,5,6,7,8,9,10]) ac w:=by
   exact S.hQ aO an aL (bf.dl [1,2] [(12,.p 2 0),(13,.v (R (bk h m g (a7 addr) 2 true).2.1)),(14,.v (B (bk h m g (a7 addr) 2 true).2.2))] 3 [(2,[ab (bk h m g (a7 addr) 2 true).1.mem.length g2.1,ab (bk h m g (a7 addr) 2 true).1.I.length fI.1,ab (bk h m g (a7 addr) 2 true).1.buf.length jj.1,ab (bk h m g (a7 addr) 2 true).1.ar.length e6.1])]) 1 .nil fun _ _ _ S=>⟨rfl,jj,jb,e6,gy,g2,gW,fI,fZ,_,_,_,S,eV,jy,gg,hq,d71,d72,d73,d74,d75,d76,i38⟩
  have adL ac w jj jb e6 gy g2 gW fI fZ u N β (S:aj Tryz.prog Tryz.f40.ntmps w0 aa u N β (bf.dl [1,2] [(22,.v (GT.val (bk h m g (a7 addr) 2 true).1 (⟨g2,fI,jj,e6⟩:cK))),(23,.v (R (bk h m g (a7 addr) 2 true).2.1)),(24,.v (B (bk h m g (a7 addr) 2 true).2.2))] 2 []) ac w) (eV:ai w0 aa u N jb (bk h m g (a7 addr) 2 true).1.buf jj) (jy:ai w0 aa u N gy (bk h m g (a7 addr) 2 true).1.ar e6) (gg:ai w0 aa u N gW (bk h m g (a7 addr) 2 true).1.mem g2) (hq:ai w0 aa u N fZ (bk h m g (a7 addr) 2 true).1.I fI) (d78:J jb gy) (d79:J jb gW) (d80:J jb fZ) (d81:J gy gW) (d82:J gy fZ) (d83:J gW fZ) (i38:aq (bk h m g (a7 addr) 2 true).2.1) (an:cZ a_ ba N u) (aL:cr bf.ay.length bg β):W 4 (cc 14 [0,1,2,3,4,5,6,7,8,9]) ac w:=by
   exact S.hQ aO an aL (bf.dl [1,2] [(12,.p 2 0),(13,.v (R (bk h m g (a7 addr) 2 true).2.1)),(14,.v (B (bk h m g (a7 addr) 2 true).2.2))] 3 [(2,[ab (bk h m g (a7 addr) 2 true).1.mem.length g2.1,ab (bk h m g (a7 addr) 2 true).1.I.length fI.1,ab (bk h m g (a7 addr) 2 true).1.buf.length jj.1,ab (bk h m g (a7 addr) 2 true).1.ar.length e6.1])]) 1 .nil fun _ _ _ S=>⟨rfl,jj,jb,e6,gy,g2,gW,fI,fZ,_,_,_,S,eV,jy,gg,hq,d78,d79,d80,d81,d82,d83,i38⟩
  have Qi ac w u N β (S:aj Tryz.prog Tryz.f40.ntmps w0 aa u N β (bf.dl [1,2] [(12,.p 2 0),(16,.v (GT.val h aK)),(17,.v (R m)),(18,.v (R g)),(20,.v (R (a7 addr)))] 3 [(2,c2 ad)]) ac w) (an:cZ a_ ba N u) (aL:cr bf.ay.length bg β):W 8 (cc 14 [0,1,2,3,4,10]) ac w:=by
   refine eJ aO 5 ?_
   refine id (S.call3 (r:=(bk h m g (a7 addr) 2 true).1) (r':=(bk h m g (a7 addr) 2 true).2.1) (r'':=(bk h m g (a7 addr) 2 true).2.2) (d:=21) (Cr w h aK (S.rd (S.arg ax)) m g (a7 addr) (qS kr) 2) (by kernel_rfl) rfl fun ac w N ey ff S up wq d88 i89=>?_)
   have Q_:=fun b h=>(⟨(up b (an b h).1).1,(up b (an b h).1).2.trans (an b h).2⟩:_/\_)
   refine ao.dA S Q_ aL fun bx=>?_
   clear up d88
   obtain⟨FI,za,Wo,MZ,Bc,uH,aiC,KP,_,_,_,_,d103,d104,d105,d106,d107,d108⟩:=n5 wq
   exact S.dp aO [6,7,8,9] bx fun _ S=>H0 _ _ ey.buf Wo ey.ar MZ ey.mem FI ey.I za _ _ _ S aiC KP Bc uH d108 (J.symm d104) (J.symm d106) (J.symm d105) (J.symm d107) d103 i89 Q_ aL
  have ac6 ac w u N β (S:aj Tryz.prog Tryz.f40.ntmps w0 aa u N β (bf.dl [1,2] [(16,.v (GT.val h aK)),(17,.v (R m)),(18,.v (R g)),(20,.v (R (a7 addr)))] 2 []) ac w) (an:cZ a_ ba N u) (aL:cr bf.ay.length bg β):W 9 (cc 14 [0,1,2,3,4]) ac w:=by
   refine jC aO 5 10 ?_ (S.fv aO an aL [] .nil fun _ _ _ S bU=>Qi _ _ _ _ _ S an bU)
   refine id (S.call3 (r:=(bk h m g (a7 addr) 2 true).1) (r':=(bk h m g (a7 addr) 2 true).2.1) (r'':=(bk h m g (a7 addr) 2 true).2.2) (d:=21) (Cr w h aK (S.rd (S.arg ax)) m g (a7 addr) (qS kr) 2) (by kernel_rfl) rfl fun ac w N Bi Vp S up KQ d113 i114=>?_)
   have x2:=fun b h=>(⟨(up b (an b h).1).1,(up b (an b h).1).2.trans (an b h).2⟩:_/\_)
   refine ao.dA S x2 aL fun bx=>?_
   clear up d113
   obtain⟨Ft,Fu,M1,Vs,A2,KS,sM,ag7,_,_,_,_,d128,d129,d130,d131,d132,d133⟩:=n5 KQ
   exact S.dp aO [6,7,8,9] bx fun _ S=>adL _ _ Bi.buf M1 Bi.ar Vs Bi.mem Ft Bi.I Fu _ _ _ S sM ag7 A2 KS d133 (J.symm d129) (J.symm d131) (J.symm d130) (J.symm d132) d128 i114 x2 aL
  have Dj ac w u N β (S:aj Tryz.prog Tryz.f40.ntmps w0 aa u N β (bf.dl [1,2] [(12,.p 2 0),(16,.v (GT.val h aK)),(17,.v (R m)),(18,.v (R g)),(19,.v (R addr))] 3 [(2,c2 ad)]) ac w) (an:cZ a_ ba N u) (aL:cr bf.ay.length bg β):W 9 (cc 14 [0,1,2,3,10]) ac w:=by
   exact eJ aO 4 (S.fv aO an aL [] (.cons (aY fun w hw=>r2 w addr kr) .nil) fun _ _ _ S bU=>Qi _ _ _ _ _ S an bU)
  have an:cZ a_ ba a_ ba:=fun b h=>⟨h,rfl⟩
  have aL:cr bf.ay.length bg bg:=fun _ _=>rfl
  exact jC aO 4 10 (S.fv aO an aL [] (.cons (aY fun w hw=>r2 w addr kr) .nil) fun _ _ _ S bU=>ac6 _ _ _ _ _ S an bU) (S.fv aO an aL [] .nil fun _ _ _ S bU=>Dj _ _ _ _ _ S an bU)
 clear S
 rintro ac w ⟨jj,jb,e6,gy,g2,gW,fI,fZ,u,N,β,S,eV,jy,gg,hq,d135,d136,d137,d138,d139,d140,i38⟩
 refine S.ex fun S=>?_
 refine S.bs 8 (.cons (aY fun w hw=>fU w addr 0 15) .nil) (!(aS addr 0 15)) (fun ac w β Ht S=>?_) (fun ac w β Ht S=>?_)
 ·have acs:=cw Ht
  have aos:=dC acs
  refine S.go 14 .nil fun ac w β S=>S.ct (r:=h) (d:=38) (hn w h aK (S.rd (S.arg ax))) fun ac w N EJ wU S up KW d147=>?_
  clear up d147
  obtain⟨M5,M6,amd,amf,KX,KY,ahb,ahd,_,_,_,_,d160,d161,d162,d163,d164,d165⟩:=n5 KW
  refine S.aP 5 .nil [GT.val h EJ,B false] fun ac w β S=>?_
  have oG:=hz (x:=h) (p:=EJ) KX KY ahb ahd d160 d161 d162 d163 d164 d165
  exact cB (p':=()) S ui ui rfl rfl oG trivial
 have acw:=cl Ht
 have aot:=cM acw
 refine S.bs 5 (.cons (aY fun w hw=>fU w v 0 99) .nil) (!(aS v 0 99)) (fun ac w β HB S=>?_) (fun ac w β HB S=>?_)
 ·have PS:=cw HB
  have aou:=dC PS
  refine S.go 9 .nil fun ac w β S=>S.ct (r:=h) (d:=38) (hn w h aK (S.rd (S.arg ax))) fun ac w N Ud amj S up ahj d175=>?_
  clear up d175
  obtain⟨Vx,Vy,amk,M8,K2,K3,ahk,K4,_,_,_,_,d188,d189,d190,d191,d192,d193⟩:=n5 ahj
  refine S.aP 5 .nil [GT.val h Ud,B false] fun ac w β S=>?_
  have K5:=hz (x:=h) (p:=Ud) K2 K3 ahk K4 d188 d189 d190 d191 d192 d193
  exact cB (p':=()) S ui ui rfl rfl K5 trivial
 have acB:=cl HB
 have aov:=cM acB
 refine S.bs 5 .nil (!(bk h m g (a7 addr) 2 true).2.2) (fun ac w β HC S=>?_) (fun ac w β HC S=>?_)
 ·have aoO:=cw HC
  refine S.go 4 .nil fun ac w β S=>S.ct (r:=h) (d:=38) (hn w h aK (S.rd (S.arg ax))) fun ac w N wA B1 S up wi d202=>?_
  clear up d202
  obtain⟨amp,amq,tb,tc,ahp,ahq,pt,kL,_,_,_,_,d215,d216,d217,d218,d219,d220⟩:=n5 wi
  refine S.aP 5 .nil [GT.val h wA,B false] fun ac w β S=>?_
  have K6:=hz (x:=h) (p:=wA) ahp ahq pt kL d215 d216 d217 d218 d219 d220
  exact cB (p':=()) S ui ui rfl rfl K6 trivial
 have aoR:=cl HC
 refine S.go 4 .nil fun ac w β S=>?_
 refine dj ?_
 refine S.df (f:=9) 8 (by kernel_rfl) (by kernel_rfl) fun w S=>?_
 refine S.hm 4 [0,1,2,3,5] [] [(40,.v (ab (bk h m g (a7 addr) 2 true).1.mem.length g2.1)),(41,.v (R (bk h m g (a7 addr) 2 true).2.1)),(42,.v (R addr)),(44,.v (R v))] .nil fun ac S=>?_
 refine S.jk 4 [] [(43,.v (R (dK addr)))] 3 [] (.cons (aY fun w hw=>xd w addr kr) .nil) fun ac w β S=>?_
 refine ao.one (i:=6) (by kernel_rfl) ?_
 refine id (S.cH 45 (zt w (bk h m g (a7 addr) 2 true).1.mem g2 (S.rd gg.al) (bk h m g (a7 addr) 2 true).2.1 (dK addr) v bu) fun ac w N LI amu S up ahu d226=>?_)
 refine ao.next S up (by kernel_rfl) ?_
 have tt:=J.w d226 hq.sub
 have xh:=J.w d226 eV.sub
 have l3:=J.w d226 jy.sub
 replace hq:=hq.up up
 replace eV:=eV.up up
 replace jy:=jy.up up
 clear up d226
 refine S.aI 7 [7] [] [(46,.p 2 0)] .nil fun ac S=>?_
 refine S.b8 8 [] [] 3 [(2,[ab (gm (bk h m g (a7 addr) 2 true).1.mem (bk h m g (a7 addr) 2 true).2.1 (dK addr) v).length LI.1,ab (bk h m g (a7 addr) 2 true).1.I.length fI.1,ab (bk h m g (a7 addr) 2 true).1.buf.length jj.1,ab (bk h m g (a7 addr) 2 true).1.ar.length e6.1])] .nil fun ac w β S=>?_
 refine ao.done (by kernel_rfl) ?_ _
 refine S.ex fun S=>?_
 refine S.aP 9 .nil [GT.val (⟨(gm (bk h m g (a7 addr) 2 true).1.mem (bk h m g (a7 addr) 2 true).2.1 (dK addr) v),(bk h m g (a7 addr) 2 true).1.I,(bk h m g (a7 addr) 2 true).1.buf,(bk h m g (a7 addr) 2 true).1.ar⟩:ad) (⟨LI,fI,jj,e6⟩:cK),B true] fun ac w β S=>?_
 have Er:=hz (x:=(⟨(gm (bk h m g (a7 addr) 2 true).1.mem (bk h m g (a7 addr) 2 true).2.1 (dK addr) v),(bk h m g (a7 addr) 2 true).1.I,(bk h m g (a7 addr) 2 true).1.buf,(bk h m g (a7 addr) 2 true).1.ar⟩:ad)) (p:=(⟨LI,fI,jj,e6⟩:cK)) ahu hq eV jy (J.symm tt) (J.symm xh) (J.symm l3) (J.symm d137) (J.symm d139) d135
 exact cB (p':=()) S ui ui rfl rfl Er trivial
theorem sD {p:Prop} (h:p:=by clear S;(first|(rw [ET (.inl (by assumption))];done)|(rw [ET (.inr (by assumption))];done)|(rw [Ur rfl (by assumption)];done)|(rw [Ur (by assumption) (by assumption)];done)|(rw [Us rfl (by assumption) (by assumption)];done)|(rw [Us (by assumption) (by assumption) (by assumption)];done))):p:=h
theorem X3 (w0:World) (h:ad) (aK:cK) (ax:br w0 h aK) (m:Int) (g:Int) (addr:Int) (kr:aq addr):Calls Tryz.prog 41 [GT.val h aK,R m,R g,R addr].toArray w0 (qO aa w0 ((hE h m g addr).1:ad) ((hE h m g addr).2.1:Int) ((hE h m g addr).2.2:Bool)):=by
 refine Calls.run aa Tryz.func41 ?_
 intro ac β S
 have gO:h.mem.length<=4194304:=ag.le (a4.mem (d:=h) ax)
 have gP:h.I.length<=4194304:=ag.le (a4.I (d:=h) ax)
 have gM:h.buf.length<=4194304:=ag.le (a4.buf (d:=h) ax)
 have gN:h.ar.length<=4194304:=ag.le (a4.ar (d:=h) ax)
 have Ja:=kr.b9;have I5:=kr.hi
 refine S.go 9 .nil fun ac w β S=>?_
 refine dj ?_
 let bf:bw:=⟨[(1,.v (R m)),(2,.v (R g)),(3,.v (R addr)),(4,.p 0 0),(8,.p 1 0)],[GT.cells h aK,c2 ad]⟩
 obtain⟨ba,a_,bg,S⟩:∃ba a_ bg,aj Tryz.prog Tryz.f41.ntmps w0 aa ba a_ bg bf ac w:=⟨_,_,_,S.z⟩
 refine lT (fun ac w=>∃hg jS u N β,aj Tryz.prog Tryz.f41.ntmps w0 aa u N β (bf.dl [1,2] [(11,.p 2 0),(12,.v (R (bk h m g (a7 addr) 1 true).2.1)),(13,.v (B (bk h m g (a7 addr) 1 true).2.2))] 3 [(2,GT.cells (bk h m g (a7 addr) 1 true).1 hg)]) ac w/\ai w0 aa u N jS (bk h m g (a7 addr) 1 true).1 hg/\aq (bk h m g (a7 addr) 1 true).2.1) ?_ ?_
 ·refine S.df (f:=14) 11 (by kernel_rfl) (by kernel_rfl) fun w S=>?_
  refine S.hm 10 [0,1,2,3] [] [(15,.v (GT.val h aK)),(16,.v (R m)),(17,.v (R g)),(18,.v (R addr))] .nil fun ac S=>?_
  refine ao.mh fun W aO=>?_
  refine ao.l0 (l':=cc 14 [0,1,2,3]) (by kernel_rfl) ?_
  have ao3 ac w hg jS u N β (S:aj Tryz.prog Tryz.f41.ntmps w0 aa u N β (bf.dl [1,2] [(11,.p 2 0),(12,.v (R (bk h m g (a7 addr) 1 true).2.1)),(13,.v (B (bk h m g (a7 addr) 1 true).2.2))] 3 [(2,GT.cells (bk h m g (a7 addr) 1 true).1 hg)]) ac w) (bS:ai w0 aa u N jS (bk h m g (a7 addr) 1 true).1 hg) (i11:aq (bk h m g (a7 addr) 1 true).2.1):W 0 (cc 14 [0,1,2,3,4,5,6,7,8,9,10,11,12,13]) ac w:=by
   exact mi aO ⟨rfl,hg,jS,_,_,_,S.z,bS,i11⟩
  have adj ac w hg jS u N β (S:aj Tryz.prog Tryz.f41.ntmps w0 aa u N β (bf.dl [1,2] [(11,.p 2 0),(21,.v (GT.val (bk h m g (a7 addr) 1 true).1 hg)),(22,.v (R (bk h m g (a7 addr) 1 true).2.1)),(23,.v (B (bk h m g (a7 addr) 1 true).2.2))] 3 [(2,c2 ad)]) ac w) (bS:ai w0 aa u N jS (bk h m g (a7 addr) 1 true).1 hg) (i11:aq (bk h m g (a7 addr) 1 true).2.1) (an:cZ a_ ba N u) (aL:cr bf.ay.length bg β):W 3 (cc 14 [0,1,2,3,4,5,6,7,8,9,10]) ac w:=by
   exact S.hQ aO an aL (bf.dl [1,2] [(11,.p 2 0),(12,.v (R (bk h m g (a7 addr) 1 true).2.1)),(13,.v (B (bk h m g (a7 addr) 1 true).2.2))] 3 [(2,GT.cells (bk h m g (a7 addr) 1 true).1 hg)]) 1 .nil fun _ _ _ S=>⟨rfl,hg,jS,_,_,_,S,bS,i11⟩
  have adl ac w hg jS u N β (S:aj Tryz.prog Tryz.f41.ntmps w0 aa u N β (bf.dl [1,2] [(21,.v (GT.val (bk h m g (a7 addr) 1 true).1 hg)),(22,.v (R (bk h m g (a7 addr) 1 true).2.1)),(23,.v (B (bk h m g (a7 addr) 1 true).2.2))] 2 []) ac w) (bS:ai w0 aa u N jS (bk h m g (a7 addr) 1 true).1 hg) (i11:aq (bk h m g (a7 addr) 1 true).2.1) (an:cZ a_ ba N u) (aL:cr bf.ay.length bg β):W 4 (cc 14 [0,1,2,3,4,5,6,7,8,9]) ac w:=by
   exact S.hQ aO an aL (bf.dl [1,2] [(11,.p 2 0),(12,.v (R (bk h m g (a7 addr) 1 true).2.1)),(13,.v (B (bk h m g (a7 addr) 1 true).2.2))] 3 [(2,GT.cells (bk h m g (a7 addr) 1 true).1 hg)]) 1 .nil fun _ _ _ S=>⟨rfl,hg,jS,_,_,_,S,bS,i11⟩
  have P4 ac w u N β (S:aj Tryz.prog Tryz.f41.ntmps w0 aa u N β (bf.dl [1,2] [(11,.p 2 0),(15,.v (GT.val h aK)),(16,.v (R m)),(17,.v (R g)),(19,.v (R (a7 addr)))] 3 [(2,c2 ad)]) ac w) (an:cZ a_ ba N u) (aL:cr bf.ay.length bg β):W 8 (cc 14 [0,1,2,3,4,10]) ac w:=by
   refine eJ aO 5 ?_
   refine id (S.call3 (r:=(bk h m g (a7 addr) 1 true).1) (r':=(bk h m g (a7 addr) 1 true).2.1) (r'':=(bk h m g (a7 addr) 1 true).2.2) (d:=20) (Cr w h aK (S.rd (S.arg ax)) m g (a7 addr) (qS kr) 1) (by kernel_rfl) rfl fun ac w N nC oa S up c4 d25 i26=>?_)
   have QZ:=fun b h=>(⟨(up b (an b h).1).1,(up b (an b h).1).2.trans (an b h).2⟩:_/\_)
   refine ao.dA S QZ aL fun bx=>?_
   clear up d25
   exact S.dp aO [6,7,8,9] bx fun _ S=>adj _ _ nC oa _ _ _ S c4 i26 QZ aL
  have adq ac w u N β (S:aj Tryz.prog Tryz.f41.ntmps w0 aa u N β (bf.dl [1,2] [(15,.v (GT.val h aK)),(16,.v (R m)),(17,.v (R g)),(19,.v (R (a7 addr)))] 2 []) ac w) (an:cZ a_ ba N u) (aL:cr bf.ay.length bg β):W 9 (cc 14 [0,1,2,3,4]) ac w:=by
   refine jC aO 5 10 ?_ (S.fv aO an aL [] .nil fun _ _ _ S bU=>P4 _ _ _ _ _ S an bU)
   refine id (S.call3 (r:=(bk h m g (a7 addr) 1 true).1) (r':=(bk h m g (a7 addr) 1 true).2.1) (r'':=(bk h m g (a7 addr) 1 true).2.2) (d:=20) (Cr w h aK (S.rd (S.arg ax)) m g (a7 addr) (qS kr) 1) (by kernel_rfl) rfl fun ac w N jE mw S up fN d32 i33=>?_)
   have Q1:=fun b h=>(⟨(up b (an b h).1).1,(up b (an b h).1).2.trans (an b h).2⟩:_/\_)
   refine ao.dA S Q1 aL fun bx=>?_
   clear up d32
   exact S.dp aO [6,7,8,9] bx fun _ S=>adl _ _ jE mw _ _ _ S fN i33 Q1 aL
  have adu ac w u N β (S:aj Tryz.prog Tryz.f41.ntmps w0 aa u N β (bf.dl [1,2] [(11,.p 2 0),(15,.v (GT.val h aK)),(16,.v (R m)),(17,.v (R g)),(18,.v (R addr))] 3 [(2,c2 ad)]) ac w) (an:cZ a_ ba N u) (aL:cr bf.ay.length bg β):W 9 (cc 14 [0,1,2,3,10]) ac w:=by
   exact eJ aO 4 (S.fv aO an aL [] (.cons (aY fun w hw=>r2 w addr kr) .nil) fun _ _ _ S bU=>P4 _ _ _ _ _ S an bU)
  have an:cZ a_ ba a_ ba:=fun b h=>⟨h,rfl⟩
  have aL:cr bf.ay.length bg bg:=fun _ _=>rfl
  exact jC aO 4 10 (S.fv aO an aL [] (.cons (aY fun w hw=>r2 w addr kr) .nil) fun _ _ _ S bU=>adq _ _ _ _ _ S an bU) (S.fv aO an aL [] .nil fun _ _ _ S bU=>adu _ _ _ _ _ S an bU)
 clear S
 rintro ac w ⟨hg,jS,u,N,β,S,bS,i11⟩
 refine S.ex fun S=>?_
 refine S.bs 8 (.cons (aY fun w hw=>fU w addr 0 15) .nil) (!(aS addr 0 15)) (fun ac w β re S=>?_) (fun ac w β re S=>?_)
 ·have vD:=cw re
  have Hk:=dC vD
  refine S.go 9 .nil fun ac w β S=>S.ct (r:=h) (d:=32) (hn w h aK (S.rd (S.arg ax))) fun ac w N aj2 amN S up uA d42=>?_
  clear up d42
  refine S.aP 6 .nil [GT.val h aj2,R 0,B false] fun ac w β S=>?_
  exact lq (p':=()) (p'':=()) S sD sD sD rfl rfl rfl uA (show aq 0 from⟨by decide,by decide⟩) trivial
 have rh:=cl re
 have Hn:=cM rh
 refine S.bs 5 .nil (!(bk h m g (a7 addr) 1 true).2.2) (fun ac w β lg S=>?_) (fun ac w β lg S=>?_)
 ·have nn:=cw lg
  refine S.go 4 .nil fun ac w β S=>S.ct (r:=h) (d:=32) (hn w h aK (S.rd (S.arg ax))) fun ac w N uP qL S up gh d50=>?_
  clear up d50
  refine S.aP 6 .nil [GT.val h uP,R 0,B false] fun ac w β S=>?_
  exact lq (p':=()) (p'':=()) S sD sD sD rfl rfl rfl gh (show aq 0 from⟨by decide,by decide⟩) trivial
 have sk:=cl lg
 refine S.go 4 .nil fun ac w β S=>?_
 refine dj ?_
 refine S.df (f:=10) 7 (by kernel_rfl) (by kernel_rfl) fun w S=>?_
 refine S.aI 0 [0] [] [(33,.v (GT.val (bk h m g (a7 addr) 1 true).1 hg))] .nil fun ac S=>?_
 refine S.aI 1 [6,2,1] [] [(34,.p 2 0)] .nil fun ac S=>?_
 refine S.aI 2 [6,2] [] [(35,.v (ab (bk h m g (a7 addr) 1 true).1.mem.length hg.mem.1))] .nil fun ac S=>?_
 refine S.aI 3 [6,3] [] [(36,.v (R (bk h m g (a7 addr) 1 true).2.1))] .nil fun ac S=>?_
 refine S.aI 4 [6,5,4] [] [(37,.v (R addr))] .nil fun ac S=>?_
 refine S.jk 5 [] [(38,.v (R (dK addr)))] 3 [] (.cons (aY fun w hw=>xd w addr kr) .nil) fun ac w β S=>?_
 refine S.jk 6 [] [(39,.v (R (gZ (bk h m g (a7 addr) 1 true).1.mem (bk h m g (a7 addr) 1 true).2.1 (dK addr))))] 3 [] (.cons (aY fun w hw=>F6 w (bk h m g (a7 addr) 1 true).1.mem hg.mem (cQ (a4.mem (d:=(bk h m g (a7 addr) 1 true).1) bS.al) hw) (bk h m g (a7 addr) 1 true).2.1 (dK addr)) .nil) fun ac w β S=>?_
 refine S.b8 7 [] [] 3 [(1,GT.cells (bk h m g (a7 addr) 1 true).1 hg)] .nil fun ac w β S=>?_
 refine S.b8 8 [] [(9,.v (R (gZ (bk h m g (a7 addr) 1 true).1.mem (bk h m g (a7 addr) 1 true).2.1 (dK addr))))] 3 [] .nil fun ac w β S=>?_
 refine S.b8 9 [] [(10,.v (B true))] 3 [] .nil fun ac w β S=>?_
 refine ao.done (by kernel_rfl) ?_ _
 refine S.ex fun S=>?_
 refine S.aP 2 .nil [GT.val (bk h m g (a7 addr) 1 true).1 hg,R (gZ (bk h m g (a7 addr) 1 true).1.mem (bk h m g (a7 addr) 1 true).2.1 (dK addr)),B true] fun ac w β S=>?_
 exact lq (p':=()) (p'':=()) S sD sD sD rfl rfl rfl bS (Gm (a4.mem (d:=(bk h m g (a7 addr) 1 true).1) bS.al) (bk h m g (a7 addr) 1 true).2.1 (dK addr)) trivial
theorem J1 {p:Prop} (h:p:=by clear S;first|rfl|(simp [eF,q6, *];done)|(simp [eF,q6, *];omega)|(simp_all [eF,q6];done)|(simp_all [eF,q6];omega)):p:=h
theorem Gg (w0:World) (h:ad) (aK:cK) (ax:br w0 h aK) (m:Int) (page:Int):Calls Tryz.prog 102 [GT.val h aK,R m,R page].toArray w0 (fun e w'=>e= .returned (B (eF h m page))/\bX aa w0 w'):=by
 refine Calls.run aa Tryz.func102 ?_
 intro ac β S
 have gO:h.mem.length<=4194304:=ag.le (a4.mem (d:=h) ax)
 have gP:h.I.length<=4194304:=ag.le (a4.I (d:=h) ax)
 have gM:h.buf.length<=4194304:=ag.le (a4.buf (d:=h) ax)
 have gN:h.ar.length<=4194304:=ag.le (a4.ar (d:=h) ax)
 refine S.bs 11 (.cons (aY fun w hw=>tn w h aK (cQ (S.arg ax) hw)) .nil) (dg h) (fun ac w β h1 S=>?_) (fun ac w β h1 S=>?_)
 ·have bM:=oA h1
  refine S.bs 7 (.cons (aY fun w hw=>gJ w m (h.I.length:Int) (by omega)) .nil) (aS m 0 ((h.I.length:Int)-1)) (fun ac w β aE S=>?_) (fun ac w β aE S=>?_)
  ·have ej:=cM aE
   exact S.bb 7 (.cons (aY fun w hw=>gJ w page 8 (by omega)) .nil) [B (aS page 0 (8-1))] (b4 J1)
  have gb:=dC aE
  exact S.bb 7 .nil [B false] (b4 J1)
 exact S.bb 14 .nil [B false] (b4 J1)
theorem yq {p:Prop} (h:p:=by clear S;(first|(rw [ai4 (by assumption)];done)|(rw [yE (by assumption) (Or.inl (by assumption))];first|done|rfl|(subst_vars;rfl))|(rw [yE (by assumption) (Or.inr (by assumption))];first|done|rfl|(subst_vars;rfl))|(rw [yE (by assumption) (Or.inr (of_decide_eq_true (by assumption)))];first|done|rfl|(subst_vars;rfl))|(rw [yE (by assumption) (Or.inr (of_decide_eq_false (by assumption)))];first|done|rfl|(subst_vars;rfl))|(rw [yE (by assumption) (Or.inr (of_decide_eq_true (cl (by assumption))))];first|done|rfl|(subst_vars;rfl))|(rw [yE (by assumption) (Or.inr (of_decide_eq_false (cw (by assumption))))];first|done|rfl|(subst_vars;rfl))|(rw [yF (by assumption) (Or.inl (by assumption))];first|done|rfl|(subst_vars;rfl))|(rw [yF (by assumption) (Or.inr (by assumption))];first|done|rfl|(subst_vars;rfl))|(rw [yF (by assumption) (Or.inr (of_decide_eq_true (by assumption)))];first|done|rfl|(subst_vars;rfl))|(rw [yF (by assumption) (Or.inr (of_decide_eq_false (by assumption)))];first|done|rfl|(subst_vars;rfl))|(rw [yF (by assumption) (Or.inr (of_decide_eq_true (cl (by assumption))))];first|done|rfl|(subst_vars;rfl))|(rw [yF (by assumption) (Or.inr (of_decide_eq_false (cw (by assumption))))];first|done|rfl|(subst_vars;rfl)))):p:=h
theorem Yh (w0:World) (h:ad) (aK:cK) (ax:br w0 h aK) (m:Int) (page:Int):Calls Tryz.prog 42 [GT.val h aK,R m,R page].toArray w0 (fG aa w0 ((kF h m page).1:ad) ((kF h m page).2:Bool)):=by
 refine Calls.run aa Tryz.func42 ?_
 intro ac β S
 have gO:h.mem.length<=4194304:=ag.le (a4.mem (d:=h) ax)
 have gP:h.I.length<=4194304:=ag.le (a4.I (d:=h) ax)
 have gM:h.buf.length<=4194304:=ag.le (a4.buf (d:=h) ax)
 have gN:h.ar.length<=4194304:=ag.le (a4.ar (d:=h) ax)
 refine S.go 10 .nil fun ac w β S=>S.ct (r:=h) (d:=10) (hn w h aK (S.rd (S.arg ax))) fun ac w N ae aX S up au d4=>?_
 clear up d4
 refine S.go 6 .nil fun ac w β S=>?_
 refine S.w1 2 au fun β N a3 b7 S up ak d8=>?_
 clear up d8 au
 refine S.bs 7 (.cons (aY fun w hw=>Gg w h aK (cQ (S.arg ax) hw) m page) .nil) (!(eF h m page)) (fun ac w β gd S=>?_) (fun ac w β gd S=>?_)
 ·have dq:=cw gd
  refine S.aP 23 (.cons (hU ak.al (t:=37) (k:=0) (Nat.succ_pos 0) rfl (by kernel_rfl) (by kernel_rfl)) .nil) [GT.val h ((aB a3 ae:af ad).2 0),B false] fun ac w β S=>?_
  obtain⟨dy,aW,_,_⟩:=kq ak (k:=0) (Nat.succ_pos 0)
  change ai w0 aa _ _ dy h ((aB a3 ae:af ad).2 0) at aW
  exact cB (p':=()) S yq yq rfl rfl aW trivial
 have ju:=cl gd
 have se:=nq ju
 refine S.a8 14 (.cons (cP (a4.I (d:=h) (S.arg ax)) m Tryz.underlying34) (.cons (dG (a4.I (d:=h) (S.arg ax)) 66 m.toNat 0 (ab (el h.I m.toNat).outer.length (aK.I.2 m.toNat).outer.1)) (.cons (cP (bn.outer (d:=(el h.I m.toNat)) (ag.el (a4.I (d:=h) (S.arg ax)) m.toNat (by omega))) page Tryz.underlying66) (.cons (dG (bn.outer (d:=(el h.I m.toNat)) (ag.el (a4.I (d:=h) (S.arg ax)) m.toNat (by omega))) 3 page.toNat 0 (R (el (el h.I m.toNat).outer page.toNat).page)) .nil)))) ((el (el h.I m.toNat).outer page.toNat).page==(-1)) (fun ac w β lf o8 S=>?_) (fun ac w β lf o8 S=>?_)
 ·refine S.aP 9 (.cons (hU ak.al (t:=37) (k:=0) (Nat.succ_pos 0) rfl (by kernel_rfl) (by kernel_rfl)) .nil) [GT.val h ((aB a3 ae:af ad).2 0),B false] fun ac w β S=>?_
  obtain⟨lV,eg,_,_⟩:=kq ak (k:=0) (Nat.succ_pos 0)
  change ai w0 aa _ _ lV h ((aB a3 ae:af ad).2 0) at eg
  exact cB (p':=()) S yq yq rfl rfl eg trivial
 refine S.go 7 .nil fun ac w β S=>S.o0 (d:=32) ak (Om w h (aB a3 ae:af ad) b7 (S.hP ak) (fun b hb=>(S.sep b (ak.sub b hb)).1) m page (by(first|omega|(dsimp only;omega)))) fun ac w N sT hR S up bY d25 Jk=>?_
 change (sT 0).I.1=((aB a3 ae:af ad).2 0).I.1 at Jk
 clear up d25 ak
 obtain⟨vd,Dl⟩:∃z,z=(iA h m page):=⟨_,rfl⟩
 have eo:ai w0 aa w N hR [vd] (((aB a3 ae:af ad).1,sT):af ad):=by rw [Dl];exact bY
 clear bY
 refine S.aP 10 (.cons (hU eo.al (t:=37) (k:=0) (Nat.succ_pos 0) rfl (by kernel_rfl) (by kernel_rfl)) .nil) [GT.val vd (sT 0),B true] fun ac w β S=>?_
 obtain⟨hS,fh,_,_⟩:=kq eo (k:=0) (Nat.succ_pos 0)
 change ai w0 aa _ _ hS vd (sT 0) at fh
 exact cB (p':=()) S yq yq rfl rfl fh trivial
theorem yp {p:Prop} (h:p:=by clear S;(first|(rw [ai1 (by assumption)];done)|(rw [yC (by assumption) (Or.inl (by assumption))];first|done|rfl|(subst_vars;rfl))|(rw [yC (by assumption) (Or.inr (by assumption))];first|done|rfl|(subst_vars;rfl))|(rw [yC (by assumption) (Or.inr (of_decide_eq_true (by assumption)))];first|done|rfl|(subst_vars;rfl))|(rw [yC (by assumption) (Or.inr (of_decide_eq_false (by assumption)))];first|done|rfl|(subst_vars;rfl))|(rw [yC (by assumption) (Or.inr (of_decide_eq_true (cl (by assumption))))];first|done|rfl|(subst_vars;rfl))|(rw [yC (by assumption) (Or.inr (of_decide_eq_false (cw (by assumption))))];first|done|rfl|(subst_vars;rfl))|(rw [yD (by assumption) (Or.inl (by assumption))];first|done|rfl|(subst_vars;rfl))|(rw [yD (by assumption) (Or.inr (by assumption))];first|done|rfl|(subst_vars;rfl))|(rw [yD (by assumption) (Or.inr (of_decide_eq_true (by assumption)))];first|done|rfl|(subst_vars;rfl))|(rw [yD (by assumption) (Or.inr (of_decide_eq_false (by assumption)))];first|done|rfl|(subst_vars;rfl))|(rw [yD (by assumption) (Or.inr (of_decide_eq_true (cl (by assumption))))];first|done|rfl|(subst_vars;rfl))|(rw [yD (by assumption) (Or.inr (of_decide_eq_false (cw (by assumption))))];first|done|rfl|(subst_vars;rfl)))):p:=h
theorem Yf (w0:World) (h:ad) (aK:cK) (ax:br w0 h aK) (m:Int) (page:Int):Calls Tryz.prog 43 [GT.val h aK,R m,R page].toArray w0 (fG aa w0 ((kE h m page).1:ad) ((kE h m page).2:Bool)):=by
 refine Calls.run aa Tryz.func43 ?_
 intro ac β S
 have gO:h.mem.length<=4194304:=ag.le (a4.mem (d:=h) ax)
 have gP:h.I.length<=4194304:=ag.le (a4.I (d:=h) ax)
 have gM:h.buf.length<=4194304:=ag.le (a4.buf (d:=h) ax)
 have gN:h.ar.length<=4194304:=ag.le (a4.ar (d:=h) ax)
 refine S.go 10 .nil fun ac w β S=>S.ct (r:=h) (d:=10) (hn w h aK (S.rd (S.arg ax))) fun ac w N ae aX S up au d4=>?_
 clear up d4
 refine S.go 6 .nil fun ac w β S=>?_
 refine S.w1 2 au fun β N a3 b7 S up ak d8=>?_
 clear up d8 au
 refine S.bs 7 (.cons (aY fun w hw=>Gg w h aK (cQ (S.arg ax) hw) m page) .nil) (!(eF h m page)) (fun ac w β gd S=>?_) (fun ac w β gd S=>?_)
 ·have dq:=cw gd
  refine S.aP 23 (.cons (hU ak.al (t:=37) (k:=0) (Nat.succ_pos 0) rfl (by kernel_rfl) (by kernel_rfl)) .nil) [GT.val h ((aB a3 ae:af ad).2 0),B false] fun ac w β S=>?_
  obtain⟨dy,aW,_,_⟩:=kq ak (k:=0) (Nat.succ_pos 0)
  change ai w0 aa _ _ dy h ((aB a3 ae:af ad).2 0) at aW
  exact cB (p':=()) S yp yp rfl rfl aW trivial
 have ju:=cl gd
 have se:=nq ju
 refine S.a8 14 (.cons (cP (a4.I (d:=h) (S.arg ax)) m Tryz.underlying34) (.cons (dG (a4.I (d:=h) (S.arg ax)) 66 m.toNat 0 (ab (el h.I m.toNat).outer.length (aK.I.2 m.toNat).outer.1)) (.cons (cP (bn.outer (d:=(el h.I m.toNat)) (ag.el (a4.I (d:=h) (S.arg ax)) m.toNat (by omega))) page Tryz.underlying66) (.cons (dG (bn.outer (d:=(el h.I m.toNat)) (ag.el (a4.I (d:=h) (S.arg ax)) m.toNat (by omega))) 3 page.toNat 0 (R (el (el h.I m.toNat).outer page.toNat).page)) .nil)))) ((el (el h.I m.toNat).outer page.toNat).page != (-1)) (fun ac w β lf o8 S=>?_) (fun ac w β lf o8 S=>?_)
 ·refine S.aP 9 (.cons (hU ak.al (t:=37) (k:=0) (Nat.succ_pos 0) rfl (by kernel_rfl) (by kernel_rfl)) .nil) [GT.val h ((aB a3 ae:af ad).2 0),B false] fun ac w β S=>?_
  obtain⟨lV,eg,_,_⟩:=kq ak (k:=0) (Nat.succ_pos 0)
  change ai w0 aa _ _ lV h ((aB a3 ae:af ad).2 0) at eg
  exact cB (p':=()) S yp yp rfl rfl eg trivial
 refine S.go 7 .nil fun ac w β S=>S.o0 (d:=32) ak (Ol w h (aB a3 ae:af ad) b7 (S.hP ak) (fun b hb=>(S.sep b (ak.sub b hb)).1) m page (by(first|assumption|exact rl (by assumption)|omega|(dsimp only;omega)))) fun ac w N sT hR S up bY d25 Jk=>?_
 change (sT 0).I.1=((aB a3 ae:af ad).2 0).I.1 at Jk
 clear up d25 ak
 obtain⟨vd,Dl⟩:∃z,z=(lb h m page):=⟨_,rfl⟩
 have eo:ai w0 aa w N hR [vd] (((aB a3 ae:af ad).1,sT):af ad):=by rw [Dl];exact bY
 clear bY
 have afX:=G_ Dl (by assumption)
 try dsimp only at afX
 refine S.aP 10 (.cons (hU eo.al (t:=37) (k:=0) (Nat.succ_pos 0) rfl (by kernel_rfl) (by kernel_rfl)) .nil) [GT.val vd (sT 0),B true] fun ac w β S=>?_
 obtain⟨mw,fN,_,_⟩:=kq eo (k:=0) (Nat.succ_pos 0)
 change ai w0 aa _ _ mw vd (sT 0) at fN
 exact cB (p':=()) S yp yp rfl rfl fN trivial
theorem yn {p:Prop} (h:p:=by clear S;(unfold mF;(repeat' split)<;>first|rfl|(exfalso;omega)|(exfalso;simp_all;done)|(subst_vars;simp [je,jM,oi,fg, *];done))):p:=h
theorem XK (w0:World) (h:ad) (aK:cK) (ax:br w0 h aK) (m:Int) (page:Int):Calls Tryz.prog 44 [GT.val h aK,R m,R page].toArray w0 (fG aa w0 ((mF h m page).1:ad) ((mF h m page).2:Bool)):=by
 refine Calls.run aa Tryz.func44 ?_
 intro ac β S
 have gO:h.mem.length<=4194304:=ag.le (a4.mem (d:=h) ax)
 have gP:h.I.length<=4194304:=ag.le (a4.I (d:=h) ax)
 have gM:h.buf.length<=4194304:=ag.le (a4.buf (d:=h) ax)
 have gN:h.ar.length<=4194304:=ag.le (a4.ar (d:=h) ax)
 refine S.go 10 .nil fun ac w β S=>S.ct (r:=h) (d:=12) (hn w h aK (S.rd (S.arg ax))) fun ac w N ae aX S up au d4=>?_
 clear up d4
 refine S.go 6 .nil fun ac w β S=>?_
 refine S.w1 2 au fun β N a3 b7 S up ak d8=>?_
 clear up d8 au
 refine S.bs 8 (.cons (aY fun w hw=>Gg w h aK (cQ (S.arg ax) hw) m page) .nil) (!(eF h m page)) (fun ac w β gd S=>?_) (fun ac w β gd S=>?_)
 ·have dq:=cw gd
  refine S.aP 9 (.cons (hU ak.al (t:=37) (k:=0) (Nat.succ_pos 0) rfl (by kernel_rfl) (by kernel_rfl)) .nil) [GT.val h ((aB a3 ae:af ad).2 0),B false] fun ac w β S=>?_
  obtain⟨dy,aW,_,_⟩:=kq ak (k:=0) (Nat.succ_pos 0)
  change ai w0 aa _ _ dy h ((aB a3 ae:af ad).2 0) at aW
  exact cB (p':=()) S yn yn rfl rfl aW trivial
 have ju:=cl gd
 have se:=nq ju
 refine S.a8 33 (.cons (g7 ak.al (t:=34) (k:=0) (j:=1) (v:=ab h.I.length ((aB a3 ae:af ad).2 0).I.1) (Nat.succ_pos 0) (by kernel_rfl) (by kernel_rfl)) (.cons (cP (di ak.al) m Tryz.underlying34) (.cons (dG (di ak.al) 66 m.toNat 0 (ab (el h.I m.toNat).outer.length (((aB a3 ae:af ad).2 0).I.2 m.toNat).outer.1)) (.cons (cP (bn.outer (d:=(el h.I m.toNat)) (ag.el (di ak.al) m.toNat (by omega))) page Tryz.underlying66) (.cons (dR (bn.outer (d:=(el h.I m.toNat)) (ag.el (di ak.al) m.toNat (by omega))) 77 page.toNat) .nil))))) ((el (el h.I m.toNat).outer page.toNat).page != (-1)) (fun ac w β lf o8 S=>?_) (fun ac w β lf o8 S=>?_)
 ·obtain⟨lV,eg,_,NM⟩:=nN ak (fun _ o=>Da o (k:=m.toNat) (show m.toNat<h.I.length by omega))
  change ai w0 aa _ _ lV (el h.I m.toNat).outer (((aB a3 ae:af ad).2 0).I.2 m.toNat).outer at eg
  have aqJ:=ag.le eg.al
  have AV:=eg.sub
  have O3:fx (el (el h.I m.toNat).outer page.toNat):=(ag.el eg.al page.toNat (by omega))
  refine S.go 10 (.cons (dG (di ak.al) 66 m.toNat 0 (ab (el h.I m.toNat).outer.length (((aB a3 ae:af ad).2 0).I.2 m.toNat).outer.1)) (.cons (cP (bn.outer (d:=(el h.I m.toNat)) (ag.el (di ak.al) m.toNat (by omega))) page Tryz.underlying66) .nil)) fun ac w β S=>S.kV (α:=aA) eg (t:=3) (k:=page.toNat) (j:=1) (off:=(((aB a3 ae:af ad).2 0).I.2 m.toNat).outer.1.off+page.toNat*2+1) (v:=R 1) (y:=(⟨(el (el h.I m.toNat).outer page.toNat).page,1⟩:aA)) (q:=()) (fun _ _ _=>⟨aa,(show fx (⟨(el (el h.I m.toNat).outer page.toNat).page,1⟩:aA) from⟨(fx.page (d:=(el (el h.I m.toNat).outer page.toNat)) O3),(show aq 1 from⟨by decide,by decide⟩)⟩),fun _ h=>False.elim h⟩) fun w N eu g2 S up eI d28 UI En=>?_
  clear d28 eg
  obtain⟨EA,eV,Jl⟩:=NM _ _ _ _ _ aa up eI UI (fun b _ h=>False.elim h) List.length_set En
  obtain⟨FR,Qo⟩:∃z,z=h.I.set m.toNat {el h.I m.toNat with outer:=((el h.I m.toNat).outer.set page.toNat (⟨(el (el h.I m.toNat).outer page.toNat).page,1⟩:aA))}:=⟨_,rfl⟩
  have jy:ai w0 aa w N (Or b7 eu) [(⟨h.mem,FR,h.buf,h.ar⟩:ad)] (((aB a3 ae:af ad).1,EA):af ad):=by rw [Qo];exact eV
  obtain⟨Kh,anU⟩:=E1 Qo (show m.toNat<h.I.length by omega) List.length_set
  change (EA 0).I.1=((aB a3 ae:af ad).2 0).I.1 at Jl
  clear up eI En eV
  refine S.go 6 .nil fun ac w β S=>S.o0 (d:=43) jy (Cy w (⟨h.mem,FR,h.buf,h.ar⟩:ad) (((aB a3 ae:af ad).1,EA):af ad) (Or b7 eu) (S.hP jy) (fun b hb=>(S.sep b (jy.sub b hb)).1) m page (el (el h.I m.toNat).outer page.toNat) (ag.el (bn.outer (d:=(el h.I m.toNat)) (ag.el (di ak.al) m.toNat (by omega))) page.toNat (by omega)) (by(first|omega|(dsimp only;omega)))) fun ac w N kO oW S up kc d44 uc=>?_
  change (kO 0).I.1=(EA 0).I.1 at uc
  clear up d44 jy
  obtain⟨lz,Qw⟩:∃z,z=(oi (⟨h.mem,FR,h.buf,h.ar⟩:ad) m page (el (el h.I m.toNat).outer page.toNat)):=⟨_,rfl⟩
  have sN:ai w0 aa w N oW [lz] ((((aB a3 ae:af ad).1),kO):af ad):=by rw [Qw];exact kc
  clear kc
  have SX:=DQ Qw (by first|omega|(dsimp only;omega))
  try dsimp only at SX
  obtain⟨B2,il,_,NP⟩:=nN sN (fun _ o=>zT o (k:=m.toNat) (show m.toNat<lz.I.length by omega))
  change ai w0 aa _ _ B2 (el lz.I m.toNat).bj (((kO 0).I.2) m.toNat).bj at il
  have af3:=ag.le il.al
  have ars:=il.sub
  refine S.go 10 (.cons (dG (gG (uc.trans Jl) (di sN.al)) 67 m.toNat 2 (ab (el lz.I m.toNat).bj.length (((kO 0).I.2) m.toNat).bj.1)) (.cons (cP (bn.bj (d:=(el lz.I m.toNat)) (ag.el (gG (uc.trans Jl) (di sN.al)) m.toNat (by omega))) page Tryz.underlying67) .nil)) fun ac w β S=>S.kV (α:=Bool) il (t:=4) (k:=page.toNat) (j:=0) (off:=(((kO 0).I.2) m.toNat).bj.1.off+page.toNat*1) (v:=B false) (y:=false) (q:=()) (fun _ _ _=>⟨aa,trivial,fun _ h=>False.elim h⟩) fun w N Ng Bj S up jA d58 akS Tq=>?_
  clear d58 il
  obtain⟨EC,uC,ae9⟩:=NP _ _ _ _ _ aa up jA akS (fun b _ h=>False.elim h) List.length_set Tq
  obtain⟨FU,Qr⟩:∃z,z=lz.I.set m.toNat {el lz.I m.toNat with bj:=((el lz.I m.toNat).bj.set page.toNat false)}:=⟨_,rfl⟩
  have pA:ai w0 aa w N (Or oW Ng) [(⟨lz.mem,FU,lz.buf,lz.ar⟩:ad)] (((((aB a3 ae:af ad).1)),EC):af ad):=by rw [Qr];exact uC
  obtain⟨arc,anX⟩:=BL Qr (show m.toNat<lz.I.length by omega) List.length_set
  change (EC 0).I.1=(kO 0).I.1 at ae9
  clear up jA Tq uC
  refine S.aP 10 (.cons (hU pA.al (t:=37) (k:=0) (Nat.succ_pos 0) rfl (by kernel_rfl) (by kernel_rfl)) .nil) [GT.val (⟨lz.mem,FU,lz.buf,lz.ar⟩:ad) (EC 0),B true] fun ac w β S=>?_
  obtain⟨m0,h_,_,_⟩:=kq pA (k:=0) (Nat.succ_pos 0)
  change ai w0 aa _ _ m0 (⟨lz.mem,FU,lz.buf,lz.ar⟩:ad) (EC 0) at h_
  exact cB (p':=()) S yn yn rfl rfl h_ trivial
 obtain⟨FE,wo,_,W_⟩:=nN ak (fun _ o=>zT o (k:=m.toNat) (show m.toNat<h.I.length by omega))
 change ai w0 aa _ _ FE (el h.I m.toNat).bj (((aB a3 ae:af ad).2 0).I.2 m.toNat).bj at wo
 have arh:=ag.le wo.al
 have KL:=wo.sub
 refine S.go 11 (.cons (dG (di ak.al) 67 m.toNat 2 (ab (el h.I m.toNat).bj.length (((aB a3 ae:af ad).2 0).I.2 m.toNat).bj.1)) (.cons (cP (bn.bj (d:=(el h.I m.toNat)) (ag.el (di ak.al) m.toNat (by omega))) page Tryz.underlying67) .nil)) fun ac w β S=>S.kV (α:=Bool) wo (t:=4) (k:=page.toNat) (j:=0) (off:=(((aB a3 ae:af ad).2 0).I.2 m.toNat).bj.1.off+page.toNat*1) (v:=B false) (y:=false) (q:=()) (fun _ _ _=>⟨aa,trivial,fun _ h=>False.elim h⟩) fun w N B8 ar0 S up uE d82 akW Tt=>?_
 clear d82 wo
 obtain⟨EF,yA,ae_⟩:=W_ _ _ _ _ _ aa up uE akW (fun b _ h=>False.elim h) List.length_set Tt
 obtain⟨FW,Qt⟩:∃z,z=h.I.set m.toNat {el h.I m.toNat with bj:=((el h.I m.toNat).bj.set page.toNat false)}:=⟨_,rfl⟩
 have uG:ai w0 aa w N (Or b7 B8) [(⟨h.mem,FW,h.buf,h.ar⟩:ad)] (((aB a3 ae:af ad).1,EF):af ad):=by rw [Qt];exact yA
 obtain⟨Kn,an1⟩:=BL Qt (show m.toNat<h.I.length by omega) List.length_set
 change (EF 0).I.1=((aB a3 ae:af ad).2 0).I.1 at ae_
 clear up uE Tt yA
 refine S.aP 10 (.cons (hU uG.al (t:=37) (k:=0) (Nat.succ_pos 0) rfl (by kernel_rfl) (by kernel_rfl)) .nil) [GT.val (⟨h.mem,FW,h.buf,h.ar⟩:ad) (EF 0),B true] fun ac w β S=>?_
 obtain⟨za,uH,_,_⟩:=kq uG (k:=0) (Nat.succ_pos 0)
 change ai w0 aa _ _ za (⟨h.mem,FW,h.buf,h.ar⟩:ad) (EF 0) at uH
 exact cB (p':=()) S yn yn rfl rfl uH trivial
theorem uk {p:Prop} (h:p:=by clear S;(unfold mP;(repeat' split)<;>first|rfl|(exfalso;omega)|(exfalso;simp_all;done)|(exfalso;simp_all;omega))):p:=h
theorem Yn (w0:World) (h:ad) (aK:cK) (ax:br w0 h aK) (m:Int) (bQ:Int) (Ju:aq bQ):Calls Tryz.prog 45 [GT.val h aK,R m,R bQ].toArray w0 (fG aa w0 ((mP h m bQ).1:ad) ((mP h m bQ).2:Bool)):=by
 refine Calls.run aa Tryz.func45 ?_
 intro ac β S
 have gO:h.mem.length<=4194304:=ag.le (a4.mem (d:=h) ax)
 have gP:h.I.length<=4194304:=ag.le (a4.I (d:=h) ax)
 have gM:h.buf.length<=4194304:=ag.le (a4.buf (d:=h) ax)
 have gN:h.ar.length<=4194304:=ag.le (a4.ar (d:=h) ax)
 have ap4:=Ju.b9;have apx:=Ju.hi
 refine S.go 10 .nil fun ac w β S=>S.ct (r:=h) (d:=10) (hn w h aK (S.rd (S.arg ax))) fun ac w N ae aX S up au d4=>?_
 clear up d4
 obtain⟨de,eE,dy,e3,a1,a6,aW,aT,_,_,_,_,d17,d18,d19,d20,d21,d22⟩:=n5 au
 refine S.bs 11 (.cons (aY fun w hw=>tn w h aK (cQ (S.arg ax) hw)) .nil) (!(dg h)) (fun ac w β iC S=>?_) (fun ac w β iC S=>?_)
 ·have fR:=cw iC
  refine S.aP 23 .nil [GT.val h ae,B false] fun ac w β S=>?_
  have eI:=hz (x:=h) (p:=ae) a1 a6 aW aT d17 d18 d19 d20 d21 d22
  exact cB (p':=()) S uk uk rfl rfl eI trivial
 have iV:=cl iC
 have tQ:=oA iV
 refine S.bs 8 (.cons (aY fun w hw=>gJ w m (h.I.length:Int) (by omega)) .nil) (!(aS m 0 ((h.I.length:Int)-1))) (fun ac w β fo S=>?_) (fun ac w β fo S=>?_)
 ·have jv:=cw fo
  have sf:=dC jv
  refine S.aP 15 .nil [GT.val h ae,B false] fun ac w β S=>?_
  have fN:=hz (x:=h) (p:=ae) a1 a6 aW aT d17 d18 d19 d20 d21 d22
  exact cB (p':=()) S uk uk rfl rfl fN trivial
 have xT:=cl fo
 have Hi:=cM xT
 refine S.bs 6 (.cons (aY fun w hw=>fU w bQ 0 3) .nil) (!(aS bQ 0 3)) (fun ac w β tV S=>?_) (fun ac w β tV S=>?_)
 ·have nm:=cw tV
  have Dd:=dC nm
  refine S.aP 9 .nil [GT.val h ae,B false] fun ac w β S=>?_
  have eO:=hz (x:=h) (p:=ae) a1 a6 aW aT d17 d18 d19 d20 d21 d22
  exact cB (p':=()) S uk uk rfl rfl eO trivial
 have sh:=cl tV
 have Hl:=cM sh
 refine S.go 11 (.cons (cP a6.al m Tryz.underlying34) .nil) fun ac w β S=>S.kV (α:=aZ) a6 (t:=3) (k:=m.toNat) (j:=6) (off:=ae.I.1.off+m.toNat*9+6) (v:=R bQ) (y:=({el h.I m.toNat with bQ:=bQ}:aZ)) (q:=(ae.I.2 m.toNat)) (fun G ha _=>⟨G,aiV ha Ju,fun _ h=> .inl h⟩) fun w N oW kP S up ln d43 ar8 agS=>?_
 have d46:=d43 _ d17 (fun b _ h=>False.elim h) a1.sub
 have d47:=d43 _ (J.symm d20) (fun b _ h=>False.elim h) aW.sub
 have d48:=d43 _ (J.symm d21) (fun b _ h=>False.elim h) aT.sub
 replace a1:=a1.bp d17 up
 replace aW:=aW.bp (J.symm d20) up
 replace aT:=aT.bp (J.symm d21) up
 clear up d43 a6 agS
 have af0:(h.I.set m.toNat ({el h.I m.toNat with bQ:=bQ})).length=h.I.length:=List.length_set
 replace S:=S.z (σ':=⟨[(6,.p 1 0),(8,.p 2 0),(31,.v (R bQ)),(33,.v (aM ae.I.1.b (ae.I.1.off+m.toNat*9+6)))],[GT.cells h aK,c2 ad,[ab h.mem.length ae.mem.1,ab (h.I.set m.toNat ({el h.I m.toNat with bQ:=bQ})).length ae.I.1,ab h.buf.length ae.buf.1,ab h.ar.length ae.ar.1]]⟩) (by rw [show(h.I.set m.toNat ({el h.I m.toNat with bQ:=bQ})).length=h.I.length by omega]<;>kernel_rfl)
 refine S.is fun S=>?_
 refine S.aP 10 .nil [GT.val (⟨h.mem,(h.I.set m.toNat ({el h.I m.toNat with bQ:=bQ})),h.buf,h.ar⟩:ad) (⟨ae.mem,(ae.I.1,kP),ae.buf,ae.ar⟩:cK),B true] fun ac w β S=>?_
 have il:=hz (x:=(⟨h.mem,(h.I.set m.toNat ({el h.I m.toNat with bQ:=bQ})),h.buf,h.ar⟩:ad)) (p:=(⟨ae.mem,(ae.I.1,kP),ae.buf,ae.ar⟩:cK)) a1 ln aW aT d46 d18 d19 (J.symm d47) (J.symm d48) d22
 exact cB (p':=()) S uk uk rfl rfl il trivial
theorem XI (w0:World) (k:bO) (fH:hI) (hk:br w0 k fH):Calls Tryz.prog 106 [GT.val k fH].toArray w0 (dZ aa w0 (j1 k:bO)):=by
 refine Calls.run aa Tryz.func106 ?_
 intro ac β S
 have x_:k.known.length<=4194304:=ag.le (hV.known (d:=k) hk)
 have ya:k.bN.length<=4194304:=ag.le (hV.bN (d:=k) hk)
 refine S.go 9 .nil fun ac w β S=>S.ct (r:=k) (d:=6) (zv w k fH (S.rd (S.arg hk))) fun ac w N ae aX S up au d4=>?_
 clear up d4
 obtain⟨de,eE,a1,a6,_,_,d11⟩:=yV au
 refine S.go 14 .nil fun ac w β S=>?_
 refine ek (fun bG ac w=>∃(i:Nat) (jx:List Bool) (b8:List aA) (gF:_) (fP:_) (lM:_) (mZ:_) (u:_) (N:_) (β:_),bG=k.known.length-i/\(i<=k.known.length)/\((⟨jx,b8⟩:bO)=r8 k i)/\aj Tryz.prog Tryz.f106.ntmps w0 aa u N β ⟨[(2,.p 1 0),(3,.p 2 0),(9,.v (R (k.known.length:Int))),(10,.v (R (i:Int)))],[GT.cells k fH,c2 bO,[ab jx.length gF.1,ab b8.length lM.1]]⟩ ac w/\ai w0 aa u N fP jx gF/\ai w0 aa u N mZ b8 lM/\J fP mZ) _ ⟨0,k.known,k.bN,ae.known,de,ae.bN,eE,_,_,_,rfl,cL,(by rfl),S.z,a1,a6,d11⟩ ?_
 clear S a1 a6
 rintro f19 bG aej ac w ⟨i,jx,b8,gF,fP,lM,mZ,u,N,β,rfl,hi,bm,S,cJ,ef,d18⟩
 refine S.rs fun S=>?_
 have hfl:=abe k i;rw [←bm] at hfl;simp only at hfl
 refine S.a8 6 .nil (decide ((i:Int)<(k.known.length:Int))) (fun ac w β iU o9 S=>?_) (fun ac w β iU o9 S=>?_)
 ·refine S.go 14 .nil fun ac w β S=>S.ct (r:=gL (⟨jx,b8⟩:bO) (i:Int)) (d:=15) (F8 w (⟨jx,b8⟩:bO) (⟨gF,lM⟩:hI) (S.rd (show GT.rd bz _ _ (⟨jx,b8⟩:bO) (⟨gF,lM⟩:hI) from⟨cJ.al,ef.al⟩)) (i:Int)) fun ac w N e0 k7 S up eI d26=>?_
  replace cJ:=cJ.up up
  replace ef:=ef.up up
  clear up d26
  obtain⟨hS,nI,fh,gr,_,_,d35⟩:=yV eI
  refine S.ge 8 (.cons (cO (i:Int) 1) .nil) f19 fun ac w β S=>aej.of (k.known.length-(i+1)) _ _ (by omega) ⟨i+1,(gL (⟨jx,b8⟩:bO) (i:Int)).known,(gL (⟨jx,b8⟩:bO) (i:Int)).bN,e0.known,hS,e0.bN,nI,_,_,_,rfl,?_,?_,S.z,fh,gr,d35⟩
  ·exact dn
  ·clear S;(rw [PC,←bm])
 refine S.aP 13 .nil [GT.val (⟨jx,b8⟩:bO) (⟨gF,lM⟩:hI)] fun ac w β S=>?_
 have hO:=pD (x:=(⟨jx,b8⟩:bO)) (p:=(⟨gF,lM⟩:hI)) cJ ef d18
 exact cT S (show j1 k=(⟨jx,b8⟩:bO) by clear S;(unfold j1;rw [show k.known.length=i by omega,←bm])) rfl hO
theorem XB (w0:World) (h:ad) (aK:cK) (ax:br w0 h aK):Calls Tryz.prog 46 [GT.val h aK].toArray w0 (dZ aa w0 (la h:ad)):=by
 refine Calls.run aa Tryz.func46 ?_
 intro ac β S
 have gO:h.mem.length<=4194304:=ag.le (a4.mem (d:=h) ax)
 have gP:h.I.length<=4194304:=ag.le (a4.I (d:=h) ax)
 have gM:h.buf.length<=4194304:=ag.le (a4.buf (d:=h) ax)
 have gN:h.ar.length<=4194304:=ag.le (a4.ar (d:=h) ax)
 refine S.go 9 .nil fun ac w β S=>S.ct (r:=h) (d:=8) (hn w h aK (S.rd (S.arg ax))) fun ac w N ae aX S up au d4=>?_
 clear up d4
 obtain⟨de,eE,dy,e3,a1,a6,aW,aT,_,_,_,_,d17,_,_,d20,d21,_⟩:=n5 au
 refine S.go 14 .nil fun ac w β S=>?_
 refine ek (fun bG ac w=>∃(i:Nat) (ms:List aZ) (e0:_) (k7:_) (u:_) (N:_) (β:_),bG=h.I.length-i/\(i<=h.I.length)/\(ms.length=h.I.length)/\(ms.take i=(h.I.take i).map C5)/\(ms.drop i=h.I.drop i)/\aj Tryz.prog Tryz.f46.ntmps w0 aa u N β ⟨[(2,.p 1 0),(3,.p 2 0),(11,.v (R (h.I.length:Int))),(12,.v (R (i:Int)))],[GT.cells h aK,c2 ad,[ab h.mem.length ae.mem.1,ab ms.length e0.1,ab h.buf.length ae.buf.1,ab h.ar.length ae.ar.1]]⟩ ac w/\ai w0 aa u N k7 ms e0/\ai w0 aa u N de h.mem ae.mem/\ai w0 aa u N dy h.buf ae.buf/\ai w0 aa u N e3 h.ar ae.ar/\J k7 de/\J k7 dy/\J k7 e3) _ ⟨0,h.I,ae.I,eE,_,_,_,rfl,cL,(by rfl),(by rfl),(by rfl),S.z,a6,a1,aW,aT,(J.symm d17),d20,d21⟩ ?_
 clear S aW aT a1 a6
 rintro f29 bG aen ac w ⟨i,ms,e0,k7,u,N,β,rfl,hi,hl,ov,vH,S,eI,a1,aW,aT,d26,d27,d28⟩
 refine S.rs fun S=>?_
 have ks:=O8 vH
 refine S.a8 6 .nil (decide ((i:Int)<(h.I.length:Int))) (fun ac w β sg xQ S=>?_) (fun ac w β sg xQ S=>?_)
 ·have anq:(el ms i).tables.length<=4194304:=ag.le (bn.tables (d:=(el ms i)) (ag.el eI.al i (by omega)))
  refine S.go 24 (.cons (cA eI.al i Tryz.underlying34) (.cons (dG eI.al 69 i 7 (ab (el ms i).tables.length (e0.2 i).tables.1)) .nil)) fun ac w β S=>?_
  refine ek (fun bG ac w=>∃(g:Nat) (ee:List aZ) (fT:List bO) (fc:_) (kU:_) (u:_) (N:_) (β:_),bG=(el h.I i).tables.length-g/\(g<=(el h.I i).tables.length)/\(ee=ms.set i {el ms i with tables:=fT})/\(fT.length=(el h.I i).tables.length)/\(fT.take g=((el h.I i).tables.take g).map j1)/\(fT.drop g=(el h.I i).tables.drop g)/\aj Tryz.prog Tryz.f46.ntmps w0 aa u N β ⟨[(2,.p 1 0),(3,.p 2 0),(4,.v (R (i:Int))),(11,.v (R (h.I.length:Int))),(12,.v (R (i:Int))),(20,.v (ab (el ee i).tables.length (fc.2 i).tables.1)),(21,.v (R ((el ms i).tables.length:Int))),(22,.v (R (g:Int)))],[GT.cells h aK,c2 ad,[ab h.mem.length ae.mem.1,ab ee.length fc.1,ab h.buf.length ae.buf.1,ab h.ar.length ae.ar.1]]⟩ ac w/\ai w0 aa u N kU ee fc/\ai w0 aa u N de h.mem ae.mem/\ai w0 aa u N dy h.buf ae.buf/\ai w0 aa u N e3 h.ar ae.ar/\J kU de/\J kU dy/\J kU e3) _ ⟨0,ms,(el ms i).tables,e0,k7,_,_,_,rfl,(by omega),(by exact(UR (by omega)).symm),(by rw [ks]),(by rfl),(by rw [ks]),S.z,eI,a1,aW,aT,d26,d27,d28⟩ ?_
  clear S aW aT eI a1
  rintro f40 bG Dr ac w ⟨g,ee,fT,fc,kU,u,N,β,rfl,aJ,rq,DN,R3,R2,S,hO,a1,aW,aT,d37,d38,d39⟩
  refine S.rs fun S=>?_
  have tY:(el h.I i).tables.length<=4194304:=ag.le (bn.tables (d:=el h.I i) (ag.el (a4.I (d:=h) ax) i (by omega)))
  have Rg:el ee i={el ms i with tables:=fT}:=by rw [rq];exact fg (by omega)
  have t_:ee.length=h.I.length:=by rw [rq,List.length_set];exact hl
  have apn:(el ee i).tables.length=(el h.I i).tables.length:=by rw [Rg];exact DN
  have apo:(el ms i).tables.length=(el h.I i).tables.length:=by rw [ks]
  refine S.a8 6 .nil (decide ((g:Int)<((el ms i).tables.length:Int))) (fun ac w β qa Hm S=>?_) (fun ac w β qa Hm S=>?_)
  ·refine S.go 15 (.cons (cA (bn.tables (d:=(el ee i)) (ag.el hO.al i (by omega))) g Tryz.underlying69) (.cons (dR (bn.tables (d:=(el ee i)) (ag.el hO.al i (by omega))) 105 g) .nil)) fun ac w β S=>?_
   refine dj ?_
   refine S.df (f:=11) 10 (by kernel_rfl) (by kernel_rfl) fun w S=>?_
   refine S.hm 3 [0,1,2,3,4,5,6,7] [] [(32,.v (ab (el ee i).tables.length (fc.2 i).tables.1)),(33,.v (R (g:Int))),(34,.v (GT.val (el (el ee i).tables g) ((fc.2 i).tables.2 g)))] (.cons (cA hO.al i Tryz.underlying34) (.cons (dG hO.al 69 i 7 (ab (el ee i).tables.length (fc.2 i).tables.1)) .nil)) fun ac S=>?_
   refine ao.one (i:=8) (by kernel_rfl) ?_
   refine id (S.cH 35 (XI w (el (el ee i).tables g) ((fc.2 i).tables.2 g) (S.rd (ag.el (bn.tables (d:=(el ee i)) (ag.el hO.al i (by omega))) g (by omega)))) fun ac w N rK wX S up jz d47=>?_)
   refine ao.next S up (by kernel_rfl) ?_
   have d48:=J.w d47 hO.sub
   have d49:=J.w d47 a1.sub
   have d50:=J.w d47 aW.sub
   have d51:=J.w d47 aT.sub
   replace hO:=hO.up up
   replace a1:=a1.up up
   replace aW:=aW.up up
   replace aT:=aT.up up
   clear up d47
   refine S.aI 9 [9] [] [(36,.v (aM (fc.2 i).tables.1.b ((fc.2 i).tables.1.off+g*2)))] (.cons (cA (bn.tables (d:=(el ee i)) (ag.el hO.al i (by omega))) g Tryz.underlying69) .nil) fun ac S=>?_
   refine ao.one (i:=10) (by kernel_rfl) ?_
   obtain⟨rS,rB,wE,W7⟩:=zU hO (k:=i) (show i<ee.length by omega)
   have af4:=ag.le rB.al
   have agW:=rB.sub
   refine id (S.n4 (α:=bO) rB (t:=105) (k:=g) (off:=(fc.2 i).tables.1.off+g*2) jz (J.symm (J.symm (J.part d48 wE))) fun w N FC jF S up iF d61 L5 Eo=>?_)
   refine ao.last (by kernel_rfl) ?_
   have d64:=d61 _ (J.symm (J.part d37 wE)) d49 a1.sub
   have d65:=d61 _ (J.symm (J.part d38 wE)) d50 aW.sub
   have d66:=d61 _ (J.symm (J.part d39 wE)) d51 aT.sub
   replace a1:=a1.bp (J.symm (J.part d37 wE)) up
   replace aW:=aW.bp (J.symm (J.part d38 wE)) up
   replace aT:=aT.bp (J.symm (J.part d39 wE)) up
   clear d61 rB
   obtain⟨Lu,nX,Xl⟩:=W7 _ _ _ _ _ wX up iF L5 d48 (by show [ab _ _]=[ab _ _];rw [List.length_set]) (fun b h=>Eo b (agW b h))
   clear up iF Eo
   have Kk:(ee.set i ({el ee i with tables:=((el ee i).tables.set g (j1 (el (el ee i).tables g)))})).length=ee.length:=List.length_set
   replace S:=S.z (σ':=⟨[(2,.p 1 0),(3,.p 2 0),(4,.v (R (i:Int))),(11,.v (R (h.I.length:Int))),(12,.v (R (i:Int))),(20,.v (ab (el ee i).tables.length (fc.2 i).tables.1)),(21,.v (R ((el ms i).tables.length:Int))),(22,.v (R (g:Int))),(35,.v (GT.val (j1 (el (el ee i).tables g)) rK)),(36,.v (aM (fc.2 i).tables.1.b ((fc.2 i).tables.1.off+g*2)))],[GT.cells h aK,c2 ad,[ab h.mem.length ae.mem.1,ab (ee.set i ({el ee i with tables:=((el ee i).tables.set g (j1 (el (el ee i).tables g)))})).length fc.1,ab h.buf.length ae.buf.1,ab h.ar.length ae.ar.1],GT.cells (el (el ee i).tables g) ((fc.2 i).tables.2 g)]⟩) (by rw [show(ee.set i ({el ee i with tables:=((el ee i).tables.set g (j1 (el (el ee i).tables g)))})).length=ee.length by omega]<;>kernel_rfl)
   replace S:=S.z (σ':=⟨[(2,.p 1 0),(3,.p 2 0),(4,.v (R (i:Int))),(11,.v (R (h.I.length:Int))),(12,.v (R (i:Int))),(20,.v (ab (el ee i).tables.length (fc.2 i).tables.1)),(21,.v (R ((el ms i).tables.length:Int))),(22,.v (R (g:Int))),(35,.v (GT.val (j1 (el (el ee i).tables g)) rK)),(36,.v (aM (fc.2 i).tables.1.b ((fc.2 i).tables.1.off+g*2)))],[GT.cells h aK,c2 ad,[ab h.mem.length ae.mem.1,ab (ee.set i ({el ee i with tables:=((el ee i).tables.set g (j1 (el (el ee i).tables g)))})).length fc.1,ab h.buf.length ae.buf.1,ab h.ar.length ae.ar.1],GT.cells (el (el ee i).tables g) ((fc.2 i).tables.2 g)]⟩)
   have alL:ab (el (ee.set i ({el ee i with tables:=((el ee i).tables.set g (j1 (el (el ee i).tables g)))})) i).tables.length ((fc.1,Lu).2 i).tables.1=ab (el ee i).tables.length (fc.2 i).tables.1:=congrArg (fun l=>l.getD 7 undef) (Xl i)
   replace S:=S.cast (σ':=⟨[(2,.p 1 0),(3,.p 2 0),(4,.v (R (i:Int))),(11,.v (R (h.I.length:Int))),(12,.v (R (i:Int))),(20,.v (ab (el (ee.set i ({el ee i with tables:=((el ee i).tables.set g (j1 (el (el ee i).tables g)))})) i).tables.length ((fc.1,Lu).2 i).tables.1)),(21,.v (R ((el ms i).tables.length:Int))),(22,.v (R (g:Int))),(35,.v (GT.val (j1 (el (el ee i).tables g)) rK)),(36,.v (aM (fc.2 i).tables.1.b ((fc.2 i).tables.1.off+g*2)))],[GT.cells h aK,c2 ad,[ab h.mem.length ae.mem.1,ab (ee.set i ({el ee i with tables:=((el ee i).tables.set g (j1 (el (el ee i).tables g)))})).length fc.1,ab h.buf.length ae.buf.1,ab h.ar.length ae.ar.1],GT.cells (el (el ee i).tables g) ((fc.2 i).tables.2 g)]⟩) (by rw [alL])
   refine ao.done (by kernel_rfl) ?_ _
   refine S.ex fun S=>?_
   refine S.ge 6 (.cons (cO (g:Int) 1) .nil) f40 fun ac w β S=>Dr.of ((el h.I i).tables.length-(g+1)) _ _ (by omega) ⟨g+1,(ee.set i ({el ee i with tables:=((el ee i).tables.set g (j1 (el (el ee i).tables g)))})),(fT.set g (j1 (el fT g))),(fc.1,Lu),(Or kU FC),_,_,_,rfl,?_,?_,?_,?_,?_,S.z,nX,a1,aW,aT,(J.symm (J.symm (J.or d37 (J.symm d64)))),(J.symm (J.symm (J.or d38 (J.symm d65)))),(J.symm (J.symm (J.or d39 (J.symm d66))))⟩
   ·clear S;omega
   ·clear S;(rw [Rg];rw [rq,List.set_set])
   ·clear S;(rw [List.length_set];exact DN)
   ·clear S;(rw [U5 (by omega),Tb (by omega),R3,O8 R2])
   ·clear S;(rw [O1];exact O0 R2)
  refine S.ge 11 (.cons (cO (i:Int) 1) .nil) f29 fun ac w β S=>aen.of (h.I.length-(i+1)) _ _ (by omega) ⟨i+1,ee,fc,kU,_,_,_,rfl,?_,?_,?_,?_,S.z,hO,a1,aW,aT,d37,d38,d39⟩
  ·exact dn
  ·clear S;(rw [rq,List.length_set];exact hl)
  ·clear S;(rw [rq,U5 (by omega),Tb (by omega),ov,ks,Zn (by omega) DN R3])
  ·clear S;(rw [rq,O1];exact O0 vH)
 refine S.aP 25 .nil [GT.val (⟨h.mem,ms,([]:List a0),([]:List a0)⟩:ad) (⟨ae.mem,e0,(GT.bL (α:=List a0)),(GT.bL (α:=List a0))⟩:cK)] fun ac w β S=>?_
 have TG:=S.hp (α:=a0)
 have pB:=S.hp (α:=a0)
 have wo:=hz (x:=(⟨h.mem,ms,([]:List a0),([]:List a0)⟩:ad)) (p:=(⟨ae.mem,e0,(GT.bL (α:=List a0)),(GT.bL (α:=List a0))⟩:cK)) a1 eI TG pB (J.symm d26) (fun b _ h=>False.elim h) (fun b _ h=>False.elim h) (fun b _ h=>False.elim h) (fun b _ h=>False.elim h) (fun b _ h=>False.elim h)
 exact cT S (show la h=(⟨h.mem,ms,([]:List a0),([]:List a0)⟩:ad) by clear S;(unfold la;rw [fj (by omega),fj (by omega)] at ov;rw [ov])) rfl wo
theorem g1 {p:Prop} (h:p:=by clear S;(first|(rw [H6 (by omega)];first|done|rfl)|(rw [H_ (by omega)];first|done|rfl)|(rw [Ia (by omega)];first|done|rfl)|(rw [Ib (by omega)];first|done|rfl)|(rw [Ic (by omega)];first|done|rfl)|(rw [Ie (by omega)];first|done|rfl)|(rw [Ig (by omega)];first|done|rfl)|(rw [Ih (by omega)];first|done|rfl)|(rw [Ii (by omega)];first|done|rfl)|(rw [H7 (by omega)];first|done|rfl)|(rw [H8 (by omega)];first|done|rfl)|(rw [H9 (by omega)];first|done|rfl)|(rw [QC (by omega)];first|done|rfl)|(rw [QD (by omega)];first|done|rfl)|(rw [QE (by omega)];first|done|rfl)|(rw [QF (by omega)];first|done|rfl)|(rw [QG (by omega)];first|done|rfl)|(rw [H5 (by omega)];first|done|rfl))):p:=h
theorem XO (w0:World) (h:ad) (aK:cK) (ax:br w0 h aK) (a:bV) (bR:dv a):Calls Tryz.prog 19 [GT.val h aK,GT.val a ()].toArray w0 (fG aa w0 ((ei h a).1:ad) ((ei h a).2:da)):=by
 refine Calls.run aa Tryz.func19 ?_
 intro ac β S
 have gO:h.mem.length<=4194304:=ag.le (a4.mem (d:=h) ax)
 have gP:h.I.length<=4194304:=ag.le (a4.I (d:=h) ax)
 have gM:h.buf.length<=4194304:=ag.le (a4.buf (d:=h) ax)
 have gN:h.ar.length<=4194304:=ag.le (a4.ar (d:=h) ax)
 refine S.a8 31 .nil (a.kind==1) (fun ac w β h1 bM S=>?_) (fun ac w β h1 bM S=>?_)
 ·refine S.go 7 .nil fun ac w β S=>S.fk (r:=(ix h a.m a.g).1) (r':=(ix h a.m a.g).2) (d:=20) (X8 w h aK (S.rd (S.arg ax)) a.m a.g) fun ac w N pF lN de b7 S up ak bS d9 d10 d11=>?_
  clear up d9
  clear d10
  refine S.go 11 .nil fun ac w β S=>S.ct (r:=(ix h a.m a.g).1) (d:=218) (hn w (ix h a.m a.g).1 pF (S.rd ak.al)) fun ac w N gF fP S up cJ d15=>?_
  clear up d15
  refine S.aP 8 (.cons (dY (s:=Instr.build 51 [(0,B (ix h a.m a.g).2),(1,R 0)].toArray) (v:= .agg [B (ix h a.m a.g).2,R 0].toArray) (fun w=>by kernel_rfl)) .nil) [GT.val (ix h a.m a.g).1 gF,GT.val (⟨(ix h a.m a.g).2,0⟩:da) ()] fun ac w β S=>?_
  exact cB (p':=()) S g1 g1 rfl rfl cJ (show kA (⟨(ix h a.m a.g).2,0⟩:da) from⟨(show aq 0 from⟨by decide,by decide⟩)⟩)
 refine S.a8 7 .nil (a.kind==2) (fun ac w β j7 q_ S=>?_) (fun ac w β j7 q_ S=>?_)
 ·refine S.go 14 (.cons (dY (s:=Instr.build 77 [(0,R a.y),(1,R a.z)].toArray) (v:= .agg [R a.y,R a.z].toArray) (fun w=>by kernel_rfl)) .nil) fun ac w β S=>S.fk (r:=(mK h a.m a.g a.x (⟨a.y,a.z⟩:aA)).1) (r':=(mK h a.m a.g a.x (⟨a.y,a.z⟩:aA)).2) (d:=38) (X6 w h aK (S.rd (S.arg ax)) a.m a.g (dv.g (d:=a) bR) a.x (dv.x (d:=a) bR) (⟨a.y,a.z⟩:aA) (show fx (⟨a.y,a.z⟩:aA) from⟨(dv.y (d:=a) bR),(dv.z (d:=a) bR)⟩)) fun ac w N ie sX u4 hR S up bY c4 d25 d26 d27=>?_
  clear up d25
  clear d26
  refine S.go 11 .nil fun ac w β S=>S.ct (r:=(mK h a.m a.g a.x (⟨a.y,a.z⟩:aA)).1) (d:=218) (hn w (mK h a.m a.g a.x (⟨a.y,a.z⟩:aA)).1 ie (S.rd bY.al)) fun ac w N gv hS S up fh d31=>?_
  clear up d31
  refine S.aP 8 (.cons (dY (s:=Instr.build 51 [(0,B (mK h a.m a.g a.x (⟨a.y,a.z⟩:aA)).2),(1,R 0)].toArray) (v:= .agg [B (mK h a.m a.g a.x (⟨a.y,a.z⟩:aA)).2,R 0].toArray) (fun w=>by kernel_rfl)) .nil) [GT.val (mK h a.m a.g a.x (⟨a.y,a.z⟩:aA)).1 gv,GT.val (⟨(mK h a.m a.g a.x (⟨a.y,a.z⟩:aA)).2,0⟩:da) ()] fun ac w β S=>?_
  exact cB (p':=()) S g1 g1 rfl rfl fh (show kA (⟨(mK h a.m a.g a.x (⟨a.y,a.z⟩:aA)).2,0⟩:da) from⟨(show aq 0 from⟨by decide,by decide⟩)⟩)
 refine S.a8 7 .nil (a.kind==3) (fun ac w β nk tR S=>?_) (fun ac w β nk tR S=>?_)
 ·refine S.go 9 .nil fun ac w β S=>S.fk (r:=(kD h a.m a.g a.x).1) (r':=(kD h a.m a.g a.x).2) (d:=51) (XU w h aK (S.rd (S.arg ax)) a.m a.g (dv.g (d:=a) bR) a.x (dv.x (d:=a) bR)) fun ac w N nD e6 gy qJ S up wk ln d41 d42 d43=>?_
  clear up d41
  clear d42
  refine S.go 11 .nil fun ac w β S=>S.ct (r:=(kD h a.m a.g a.x).1) (d:=218) (hn w (kD h a.m a.g a.x).1 nD (S.rd wk.al)) fun ac w N rK wX S up jz d47=>?_
  clear up d47
  refine S.aP 8 (.cons (dY (s:=Instr.build 51 [(0,B (kD h a.m a.g a.x).2),(1,R 0)].toArray) (v:= .agg [B (kD h a.m a.g a.x).2,R 0].toArray) (fun w=>by kernel_rfl)) .nil) [GT.val (kD h a.m a.g a.x).1 rK,GT.val (⟨(kD h a.m a.g a.x).2,0⟩:da) ()] fun ac w β S=>?_
  exact cB (p':=()) S g1 g1 rfl rfl jz (show kA (⟨(kD h a.m a.g a.x).2,0⟩:da) from⟨(show aq 0 from⟨by decide,by decide⟩)⟩)
 refine S.a8 7 .nil (a.kind==4) (fun ac w β xU Df S=>?_) (fun ac w β xU Df S=>?_)
 ·refine S.go 9 .nil fun ac w β S=>S.fk (r:=(mG h a.m a.g a.x).1) (r':=(mG h a.m a.g a.x).2) (d:=64) (XP w h aK (S.rd (S.arg ax)) a.m a.g (dv.g (d:=a) bR) a.x (dv.x (d:=a) bR)) fun ac w N EP Ul FA lX S up jA kd d57 d58 d59=>?_
  clear up d57
  clear d58
  refine S.go 11 .nil fun ac w β S=>S.ct (r:=(mG h a.m a.g a.x).1) (d:=218) (hn w (mG h a.m a.g a.x).1 EP (S.rd jA.al)) fun ac w N jF oZ S up uC d63=>?_
  clear up d63
  refine S.aP 8 (.cons (dY (s:=Instr.build 51 [(0,B (mG h a.m a.g a.x).2),(1,R 0)].toArray) (v:= .agg [B (mG h a.m a.g a.x).2,R 0].toArray) (fun w=>by kernel_rfl)) .nil) [GT.val (mG h a.m a.g a.x).1 jF,GT.val (⟨(mG h a.m a.g a.x).2,0⟩:da) ()] fun ac w β S=>?_
  exact cB (p':=()) S g1 g1 rfl rfl uC (show kA (⟨(mG h a.m a.g a.x).2,0⟩:da) from⟨(show aq 0 from⟨by decide,by decide⟩)⟩)
 refine S.a8 7 .nil (a.kind==5) (fun ac w β rj z1 S=>?_) (fun ac w β rj z1 S=>?_)
 ·refine S.go 7 .nil fun ac w β S=>S.fk (r:=(mJ h a.m a.g).1) (r':=(mJ h a.m a.g).2) (d:=75) (X4 w h aK (S.rd (S.arg ax)) a.m a.g (dv.g (d:=a) bR)) fun ac w N uQ yN y9 m0 S up h_ TG d73 d74 d75=>?_
  clear up d73
  clear d74
  refine S.go 11 .nil fun ac w β S=>S.ct (r:=(mJ h a.m a.g).1) (d:=218) (hn w (mJ h a.m a.g).1 uQ (S.rd h_.al)) fun ac w N LP FG S up qo d79=>?_
  clear up d79
  refine S.aP 8 (.cons (dY (s:=Instr.build 51 [(0,B (mJ h a.m a.g).2),(1,R 0)].toArray) (v:= .agg [B (mJ h a.m a.g).2,R 0].toArray) (fun w=>by kernel_rfl)) .nil) [GT.val (mJ h a.m a.g).1 LP,GT.val (⟨(mJ h a.m a.g).2,0⟩:da) ()] fun ac w β S=>?_
  exact cB (p':=()) S g1 g1 rfl rfl qo (show kA (⟨(mJ h a.m a.g).2,0⟩:da) from⟨(show aq 0 from⟨by decide,by decide⟩)⟩)
 refine S.a8 7 .nil (a.kind==6) (fun ac w β acX abX S=>?_) (fun ac w β acX abX S=>?_)
 ·refine S.go 9 .nil fun ac w β S=>S.fk (r:=(mH h a.m a.g a.x).1) (r':=(mH h a.m a.g a.x).2) (d:=88) (XW w h aK (S.rd (S.arg ax)) a.m a.g (dv.g (d:=a) bR) a.x (dv.x (d:=a) bR)) fun ac w N Bm n2 FH ff S up wq rC d89 d90 d91=>?_
  clear up d89
  clear d90
  refine S.go 11 .nil fun ac w β S=>S.ct (r:=(mH h a.m a.g a.x).1) (d:=218) (hn w (mH h a.m a.g a.x).1 Bm (S.rd wq.al)) fun ac w N LQ wZ S up nx d95=>?_
  clear up d95
  refine S.aP 8 (.cons (dY (s:=Instr.build 51 [(0,B (mH h a.m a.g a.x).2),(1,R 0)].toArray) (v:= .agg [B (mH h a.m a.g a.x).2,R 0].toArray) (fun w=>by kernel_rfl)) .nil) [GT.val (mH h a.m a.g a.x).1 LQ,GT.val (⟨(mH h a.m a.g a.x).2,0⟩:da) ()] fun ac w β S=>?_
  exact cB (p':=()) S g1 g1 rfl rfl nx (show kA (⟨(mH h a.m a.g a.x).2,0⟩:da) from⟨(show aq 0 from⟨by decide,by decide⟩)⟩)
 refine S.a8 7 .nil (a.kind==7) (fun ac w β np abZ S=>?_) (fun ac w β np abZ S=>?_)
 ·refine S.go 1 .nil fun ac w β S=>?_
  refine dj ?_
  let mu:bw:=⟨[(2,.p 0 0),(3,.p 1 0),(4,.p 2 0),(5,.p 3 0),(6,.p 4 0),(7,.v (B false)),(8,.v (R 0)),(11,.v (R a.kind)),(91,.v (B true))],[GT.cells h aK,GT.cells a (),c2 ad,c2 da,GT.cells h aK]⟩
  obtain⟨ba,a_,bg,S⟩:∃ba a_ bg,aj Tryz.prog Tryz.f19.ntmps w0 aa ba a_ bg mu ac w:=⟨_,_,_,S.z⟩
  refine lT (fun ac w=>∃oP oV u N β,aj Tryz.prog Tryz.f19.ntmps w0 aa u N β (mu.dl [2,3,11,91] [(7,.v (B (iO h a.m a.g (ih a)).2))] 5 [(4,GT.cells (iO h a.m a.g (ih a)).1 oP)]) ac w/\ai w0 aa u N oV (iO h a.m a.g (ih a)).1 oP) ?_ ?_
  ·refine S.df (f:=13) 11 (by kernel_rfl) (by kernel_rfl) fun w S=>?_
   refine S.hm 7 [0,1,2,3,4,5] [] [(94,.v (GT.val h aK)),(96,.v (R a.m)),(98,.v (R a.g)),(99,.v (GT.val a ()))] .nil fun ac S=>?_
   refine ao.mh fun W aO=>?_
   refine ao.l0 (l':=cc 13 [0,1,2,3,4,5]) (by kernel_rfl) ?_
   have P1 ac w oP oV u N β (S:aj Tryz.prog Tryz.f19.ntmps w0 aa u N β (mu.dl [2,3,11,91] [(7,.v (B (iO h a.m a.g (ih a)).2))] 5 [(4,GT.cells (iO h a.m a.g (ih a)).1 oP)]) ac w) (sL:ai w0 aa u N oV (iO h a.m a.g (ih a)).1 oP):W 0 (cc 13 [0,1,2,3,4,5,6,7,8,9,10,11,12]) ac w:=by
    exact mi aO ⟨rfl,oP,oV,_,_,_,S.z,sL⟩
   have ac9 ac w oP oV u N β (S:aj Tryz.prog Tryz.f19.ntmps w0 aa u N β (mu.dl [2,3,11,91] [(102,.v (GT.val (iO h a.m a.g (ih a)).1 oP)),(103,.v (B (iO h a.m a.g (ih a)).2))] 5 []) ac w) (sL:ai w0 aa u N oV (iO h a.m a.g (ih a)).1 oP) (an:cZ a_ ba N u) (aL:cr mu.ay.length bg β):W 2 (cc 13 [0,1,2,3,4,5,6,7,8,9,10]) ac w:=by
    exact S.hQ aO an aL (mu.dl [2,3,11,91] [(7,.v (B (iO h a.m a.g (ih a)).2))] 5 [(4,GT.cells (iO h a.m a.g (ih a)).1 oP)]) 1 .nil fun _ _ _ S=>⟨rfl,oP,oV,_,_,_,S,sL⟩
   have HQ ac w u N β (S:aj Tryz.prog Tryz.f19.ntmps w0 aa u N β (mu.dl [2,3,11,91] [(94,.v (GT.val h aK)),(96,.v (R a.m)),(98,.v (R a.g)),(100,.v (GT.val (ih a) ()))] 5 []) ac w) (i111:hC (ih a)) (an:cZ a_ ba N u) (aL:cr mu.ay.length bg β):W 6 (cc 13 [0,1,2,3,4,5,6]) ac w:=by
    refine eJ aO 7 ?_
    refine id (S.call2 (r:=(iO h a.m a.g (ih a)).1) (r':=(iO h a.m a.g (ih a)).2) (d:=101) (XR w h aK (S.rd (S.arg ax)) a.m a.g (dv.g (d:=a) bR) (ih a) i111) (by kernel_rfl) rfl fun ac w N ajj arE Vt al9 S up ag9 jg d134 d135 d136=>?_)
    have QK:=fun b h=>(⟨(up b (an b h).1).1,(up b (an b h).1).2.trans (an b h).2⟩:_/\_)
    refine ao.dA S QK aL fun bx=>?_
    clear up d134
    clear d135
    exact S.dp aO [8,9,10] bx fun _ S=>ac9 _ _ ajj Vt _ _ _ S ag9 QK aL
   have an:cZ a_ ba a_ ba:=fun b h=>⟨h,rfl⟩
   have aL:cr mu.ay.length bg bg:=fun _ _=>rfl
   have i138:hC (ih a):=(Zr bR)
   exact eJ aO 6 (S.fv aO an aL [] (.cons (aY fun w hw=>XE w a bR) .nil) fun _ _ _ S bU=>HQ _ _ _ _ _ S i138 an bU)
  clear S
  rintro ac w ⟨oP,oV,u,N,β,S,sL⟩
  refine S.ex fun S=>?_
  refine S.go 5 .nil fun ac w β S=>S.ct (r:=(iO h a.m a.g (ih a)).1) (d:=218) (hn w (iO h a.m a.g (ih a)).1 oP (S.rd sL.al)) fun ac w N wy BZ S up qm d142=>?_
  clear up d142
  refine S.aP 8 (.cons (dY (s:=Instr.build 51 [(0,B (iO h a.m a.g (ih a)).2),(1,R 0)].toArray) (v:= .agg [B (iO h a.m a.g (ih a)).2,R 0].toArray) (fun w=>by kernel_rfl)) .nil) [GT.val (iO h a.m a.g (ih a)).1 wy,GT.val (⟨(iO h a.m a.g (ih a)).2,0⟩:da) ()] fun ac w β S=>?_
  exact cB (p':=()) S g1 g1 rfl rfl qm (show kA (⟨(iO h a.m a.g (ih a)).2,0⟩:da) from⟨(show aq 0 from⟨by decide,by decide⟩)⟩)
 refine S.a8 7 .nil (a.kind==8) (fun ac w β Hu Hf S=>?_) (fun ac w β Hu Hf S=>?_)
 ·refine S.go 11 .nil fun ac w β S=>S.fk (r:=(kZ h a.m a.x a.y a.z).1) (r':=(kZ h a.m a.x a.y a.z).2) (d:=116) (XZ w h aK (S.rd (S.arg ax)) a.m a.x (dv.x (d:=a) bR) a.y (dv.y (d:=a) bR) a.z (dv.z (d:=a) bR)) fun ac w N kf ajm M5 amc S up wg aru d152 d153 d154=>?_
  clear up d152
  clear d153
  refine S.go 11 .nil fun ac w β S=>S.ct (r:=(kZ h a.m a.x a.y a.z).1) (d:=218) (hn w (kZ h a.m a.x a.y a.z).1 kf (S.rd wg.al)) fun ac w N ajo ame S up ahc d158=>?_
  clear up d158
  refine S.aP 8 (.cons (dY (s:=Instr.build 51 [(0,B (kZ h a.m a.x a.y a.z).2),(1,R 0)].toArray) (v:= .agg [B (kZ h a.m a.x a.y a.z).2,R 0].toArray) (fun w=>by kernel_rfl)) .nil) [GT.val (kZ h a.m a.x a.y a.z).1 ajo,GT.val (⟨(kZ h a.m a.x a.y a.z).2,0⟩:da) ()] fun ac w β S=>?_
  exact cB (p':=()) S g1 g1 rfl rfl ahc (show kA (⟨(kZ h a.m a.x a.y a.z).2,0⟩:da) from⟨(show aq 0 from⟨by decide,by decide⟩)⟩)
 refine S.a8 7 .nil (a.kind==9) (fun ac w β Hz Hg S=>?_) (fun ac w β Hz Hg S=>?_)
 ·refine S.go 7 .nil fun ac w β S=>S.fk (r:=(mI h a.m a.x).1) (r':=(mI h a.m a.x).2) (d:=127) (X1 w h aK (S.rd (S.arg ax)) a.m a.x (dv.x (d:=a) bR)) fun ac w N ajq LG Vw wV S up oG arv d168 d169 d170=>?_
  clear up d168
  clear d169
  refine S.go 11 .nil fun ac w β S=>S.ct (r:=(mI h a.m a.x).1) (d:=218) (hn w (mI h a.m a.x).1 ajq (S.rd oG.al)) fun ac w N kg ami S up ahi d174=>?_
  clear up d174
  refine S.aP 8 (.cons (dY (s:=Instr.build 51 [(0,B (mI h a.m a.x).2),(1,R 0)].toArray) (v:= .agg [B (mI h a.m a.x).2,R 0].toArray) (fun w=>by kernel_rfl)) .nil) [GT.val (mI h a.m a.x).1 kg,GT.val (⟨(mI h a.m a.x).2,0⟩:da) ()] fun ac w β S=>?_
  exact cB (p':=()) S g1 g1 rfl rfl ahi (show kA (⟨(mI h a.m a.x).2,0⟩:da) from⟨(show aq 0 from⟨by decide,by decide⟩)⟩)
 refine S.a8 7 .nil (a.kind==10) (fun ac w β acx abr S=>?_) (fun ac w β acx abr S=>?_)
 ·refine S.go 5 .nil fun ac w β S=>S.zb (r:=(h6 h a.m).1) (r':=(h6 h a.m).2.1) (r'':=(h6 h a.m).2.2) (d:=136) (XM w h aK (S.rd (S.arg ax)) a.m) fun ac w N ajs Vy S up K3 d181 i182=>?_
  clear up d181
  refine S.go 13 .nil fun ac w β S=>S.ct (r:=(h6 h a.m).1) (d:=218) (hn w (h6 h a.m).1 ajs (S.rd K3.al)) fun ac w N ajt aml S up ahl d186=>?_
  clear up d186
  refine S.aP 8 (.cons (dY (s:=Instr.build 51 [(0,B (h6 h a.m).2.2),(1,R (h6 h a.m).2.1)].toArray) (v:= .agg [B (h6 h a.m).2.2,R (h6 h a.m).2.1].toArray) (fun w=>by kernel_rfl)) .nil) [GT.val (h6 h a.m).1 ajt,GT.val (⟨(h6 h a.m).2.2,(h6 h a.m).2.1⟩:da) ()] fun ac w β S=>?_
  exact cB (p':=()) S g1 g1 rfl rfl ahl (show kA (⟨(h6 h a.m).2.2,(h6 h a.m).2.1⟩:da) from⟨i182⟩)
 refine S.a8 7 .nil (a.kind==11) (fun ac w β acz abu S=>?_) (fun ac w β acz abu S=>?_)
 ·refine S.go 11 .nil fun ac w β S=>S.fk (r:=(kC h a.m a.g a.x a.y).1) (r':=(kC h a.m a.g a.x a.y).2) (d:=152) (XT w h aK (S.rd (S.arg ax)) a.m a.g a.x (dv.x (d:=a) bR) a.y (dv.y (d:=a) bR)) fun ac w N ajw arI amn amo S up K5 kK d196 d197 d198=>?_
  clear up d196
  clear d197
  refine S.go 11 .nil fun ac w β S=>S.ct (r:=(kC h a.m a.g a.x a.y).1) (d:=218) (hn w (kC h a.m a.g a.x a.y).1 ajw (S.rd K5.al)) fun ac w N wA B1 S up wi d202=>?_
  clear up d202
  refine S.aP 8 (.cons (dY (s:=Instr.build 51 [(0,B (kC h a.m a.g a.x a.y).2),(1,R 0)].toArray) (v:= .agg [B (kC h a.m a.g a.x a.y).2,R 0].toArray) (fun w=>by kernel_rfl)) .nil) [GT.val (kC h a.m a.g a.x a.y).1 wA,GT.val (⟨(kC h a.m a.g a.x a.y).2,0⟩:da) ()] fun ac w β S=>?_
  exact cB (p':=()) S g1 g1 rfl rfl wi (show kA (⟨(kC h a.m a.g a.x a.y).2,0⟩:da) from⟨(show aq 0 from⟨by decide,by decide⟩)⟩)
 refine S.a8 7 .nil (a.kind==12) (fun ac w β acD abx S=>?_) (fun ac w β acD abx S=>?_)
 ·refine S.go 9 .nil fun ac w β S=>S.zb (r:=(hE h a.m a.g a.x).1) (r':=(hE h a.m a.g a.x).2.1) (r'':=(hE h a.m a.g a.x).2.2) (d:=165) (X3 w h aK (S.rd (S.arg ax)) a.m a.g a.x (dv.x (d:=a) bR)) fun ac w N ajy amr S up ahr d209 i210=>?_
  clear up d209
  refine S.go 13 .nil fun ac w β S=>S.ct (r:=(hE h a.m a.g a.x).1) (d:=218) (hn w (hE h a.m a.g a.x).1 ajy (S.rd ahr.al)) fun ac w N sY tc S up kL d214=>?_
  clear up d214
  refine S.aP 8 (.cons (dY (s:=Instr.build 51 [(0,B (hE h a.m a.g a.x).2.2),(1,R (hE h a.m a.g a.x).2.1)].toArray) (v:= .agg [B (hE h a.m a.g a.x).2.2,R (hE h a.m a.g a.x).2.1].toArray) (fun w=>by kernel_rfl)) .nil) [GT.val (hE h a.m a.g a.x).1 sY,GT.val (⟨(hE h a.m a.g a.x).2.2,(hE h a.m a.g a.x).2.1⟩:da) ()] fun ac w β S=>?_
  exact cB (p':=()) S g1 g1 rfl rfl kL (show kA (⟨(hE h a.m a.g a.x).2.2,(hE h a.m a.g a.x).2.1⟩:da) from⟨i210⟩)
 refine S.a8 7 .nil (a.kind==13) (fun ac w β HE Hh S=>?_) (fun ac w β HE Hh S=>?_)
 ·refine S.go 7 .nil fun ac w β S=>S.fk (r:=(kF h a.m a.x).1) (r':=(kF h a.m a.x).2) (d:=177) (Yh w h aK (S.rd (S.arg ax)) a.m a.x) fun ac w N ajz ajA VB ams S up ahs arw d224 d225 d226=>?_
  clear up d224
  clear d225
  refine S.go 11 .nil fun ac w β S=>S.ct (r:=(kF h a.m a.x).1) (d:=218) (hn w (kF h a.m a.x).1 ajz (S.rd ahs.al)) fun ac w N LJ VC S up A9 l3=>?_
  clear up l3
  refine S.aP 8 (.cons (dY (s:=Instr.build 51 [(0,B (kF h a.m a.x).2),(1,R 0)].toArray) (v:= .agg [B (kF h a.m a.x).2,R 0].toArray) (fun w=>by kernel_rfl)) .nil) [GT.val (kF h a.m a.x).1 LJ,GT.val (⟨(kF h a.m a.x).2,0⟩:da) ()] fun ac w β S=>?_
  exact cB (p':=()) S g1 g1 rfl rfl A9 (show kA (⟨(kF h a.m a.x).2,0⟩:da) from⟨(show aq 0 from⟨by decide,by decide⟩)⟩)
 refine S.a8 7 .nil (a.kind==14) (fun ac w β acG abA S=>?_) (fun ac w β acG abA S=>?_)
 ·refine S.go 7 .nil fun ac w β S=>S.fk (r:=(kE h a.m a.x).1) (r':=(kE h a.m a.x).2) (d:=188) (Yf w h aK (S.rd (S.arg ax)) a.m a.x) fun ac w N ajC ajD Fz VF S up K8 Ty vm Gs OH=>?_
  clear up vm
  clear Gs
  refine S.go 11 .nil fun ac w β S=>S.ct (r:=(kE h a.m a.x).1) (d:=218) (hn w (kE h a.m a.x).1 ajC (S.rd K8.al)) fun ac w N ajF amv S up ahy vn=>?_
  clear up vn
  refine S.aP 8 (.cons (dY (s:=Instr.build 51 [(0,B (kE h a.m a.x).2),(1,R 0)].toArray) (v:= .agg [B (kE h a.m a.x).2,R 0].toArray) (fun w=>by kernel_rfl)) .nil) [GT.val (kE h a.m a.x).1 ajF,GT.val (⟨(kE h a.m a.x).2,0⟩:da) ()] fun ac w β S=>?_
  exact cB (p':=()) S g1 g1 rfl rfl ahy (show kA (⟨(kE h a.m a.x).2,0⟩:da) from⟨(show aq 0 from⟨by decide,by decide⟩)⟩)
 refine S.a8 7 .nil (a.kind==15) (fun ac w β PT abB S=>?_) (fun ac w β PT abB S=>?_)
 ·refine S.go 7 .nil fun ac w β S=>S.fk (r:=(mF h a.m a.x).1) (r':=(mF h a.m a.x).2) (d:=199) (XK w h aK (S.rd (S.arg ax)) a.m a.x) fun ac w N ajH arL amx amy S up ahB yy l4 xk xl=>?_
  clear up l4
  clear xk
  refine S.go 11 .nil fun ac w β S=>S.ct (r:=(mF h a.m a.x).1) (d:=218) (hn w (mF h a.m a.x).1 ajH (S.rd ahB.al)) fun ac w N LL M9 S up K9 pY=>?_
  clear up pY
  refine S.aP 8 (.cons (dY (s:=Instr.build 51 [(0,B (mF h a.m a.x).2),(1,R 0)].toArray) (v:= .agg [B (mF h a.m a.x).2,R 0].toArray) (fun w=>by kernel_rfl)) .nil) [GT.val (mF h a.m a.x).1 LL,GT.val (⟨(mF h a.m a.x).2,0⟩:da) ()] fun ac w β S=>?_
  exact cB (p':=()) S g1 g1 rfl rfl K9 (show kA (⟨(mF h a.m a.x).2,0⟩:da) from⟨(show aq 0 from⟨by decide,by decide⟩)⟩)
 refine S.a8 7 .nil (a.kind==16) (fun ac w β PU abE S=>?_) (fun ac w β PU abE S=>?_)
 ·refine S.go 7 .nil fun ac w β S=>S.fk (r:=(mP h a.m a.x).1) (r':=(mP h a.m a.x).2) (d:=210) (Yn w h aK (S.rd (S.arg ax)) a.m a.x (dv.x (d:=a) bR)) fun ac w N ajJ arO amB amC S up ahG Es Gx zE xq=>?_
  clear up Gx
  clear zE
  refine S.go 11 .nil fun ac w β S=>S.ct (r:=(mP h a.m a.x).1) (d:=218) (hn w (mP h a.m a.x).1 ajJ (S.rd ahG.al)) fun ac w N ajL amD S up ahK zH=>?_
  clear up zH
  refine S.aP 8 (.cons (dY (s:=Instr.build 51 [(0,B (mP h a.m a.x).2),(1,R 0)].toArray) (v:= .agg [B (mP h a.m a.x).2,R 0].toArray) (fun w=>by kernel_rfl)) .nil) [GT.val (mP h a.m a.x).1 ajL,GT.val (⟨(mP h a.m a.x).2,0⟩:da) ()] fun ac w β S=>?_
  exact cB (p':=()) S g1 g1 rfl rfl ahK (show kA (⟨(mP h a.m a.x).2,0⟩:da) from⟨(show aq 0 from⟨by decide,by decide⟩)⟩)
 refine S.a8 7 .nil (a.kind==17) (fun ac w β acJ abG S=>?_) (fun ac w β acJ abG S=>?_)
 ·refine S.go 3 .nil fun ac w β S=>S.ct (r:=la h) (d:=216) (XB w h aK (S.rd (S.arg ax))) fun ac w N ajO amE S up ahO CG=>?_
  clear up CG
  refine S.go 8 .nil fun ac w β S=>S.ct (r:=(la h)) (d:=218) (hn w (la h) ajO (S.rd ahO.al)) fun ac w N ajP amG S up ahQ xt=>?_
  clear up xt
  refine S.aP 8 (.cons (dY (s:=Instr.build 51 [(0,B true),(1,R 0)].toArray) (v:= .agg [B true,R 0].toArray) (fun w=>by kernel_rfl)) .nil) [GT.val (la h) ajP,GT.val (⟨true,0⟩:da) ()] fun ac w β S=>?_
  exact cB (p':=()) S g1 g1 rfl rfl ahQ (show kA (⟨true,0⟩:da) from⟨(show aq 0 from⟨by decide,by decide⟩)⟩)
 refine S.go 7 .nil fun ac w β S=>S.ct (r:=h) (d:=218) (hn w h aK (S.rd (S.arg ax))) fun ac w N LM Na S up K_ xu=>?_
 clear up xu
 refine S.aP 8 (.cons (dY (s:=Instr.build 51 [(0,B false),(1,R 0)].toArray) (v:= .agg [B false,R 0].toArray) (fun w=>by kernel_rfl)) .nil) [GT.val h LM,GT.val (⟨false,0⟩:da) ()] fun ac w β S=>?_
 exact cB (p':=()) S g1 g1 rfl rfl K_ (show kA (⟨false,0⟩:da) from⟨(show aq 0 from⟨by decide,by decide⟩)⟩)
theorem N8 (w0:World) (all:List (List (List cE))) (ml:af (List (List cE))) (mb:br w0 all ml) (fy:List bV) (rF:af bV) (Ah:br w0 fy rF):Calls Tryz.prog 8 [ab all.length ml.1,ab fy.length rF.1].toArray w0 (fG aa w0 ((p2 all fy).1:ad) ((p2 all fy).2:List da)):=by
 refine Calls.run aa Tryz.func8 ?_
 intro ac β S
 have aeG:all.length<=4194304:=ag.le mb
 have apO:fy.length<=4194304:=ag.le Ah
 refine S.go 9 .nil fun ac w β S=>S.ct (r:=j2 all) (d:=13) (XY w all ml (S.rd (S.arg mb))) fun ac w N ae aX S up au d4=>?_
 clear up d4
 refine S.gx (α:=da) (d:=14) fun ac w N bZ b7 S up ak d8=>?_
 have d9:=J.w d8 au.sub
 replace au:=au.up up
 clear up d8
 have afP:(fy.take (min fy.length 80:Nat)).length=(min fy.length 80:Nat)-0:=by first|(simp;done)|(simp;omega)
 refine S.go 15 (.cons (aY fun w hw=>Yq w fy rF (cQ (S.arg Ah) hw)) .nil) fun ac w β S=>?_
 refine ek (fun bG ac w=>∃(k:Nat) (Y:ad) (acc:List da) (oO:_) (mY:_) (lp:_) (kv:_) (u:_) (N:_) (β:_),bG=min fy.length 80-k/\(k<=min fy.length 80)/\(acc.length=k)/\((Y,acc)=iz ((fy.take (min fy.length 80)).take k) (j2 all))/\aj Tryz.prog Tryz.f8.ntmps w0 aa u N β ⟨[(4,.p 0 0),(6,.p 1 0),(7,.v (ab acc.length oO.1)),(16,.v (ab (min fy.length 80:Nat) (rF.1.b8 0 6))),(17,.v (R ((min fy.length 80:Nat):Int))),(18,.v (R (k:Int)))],[c2 ad,GT.cells Y lp]⟩ ac w/\ai w0 aa u N mY acc oO/\ai w0 aa u N kv Y lp/\J mY kv) _ ⟨0,(j2 all),([]:List da),bZ,b7,ae,aX,_,_,_,rfl,cL,(by rfl),(by rfl),S.z,ak,au,(J.symm d9)⟩ ?_
 clear S au ak
 rintro f18 bG aei ac w ⟨k,Y,acc,oO,mY,lp,kv,u,N,β,rfl,hk,hl,bm,S,fa,dd,d17⟩
 refine S.rs fun S=>?_
 refine S.a8 6 .nil (decide ((k:Int)<((min fy.length 80:Nat):Int))) (fun ac w β j8 Dc S=>?_) (fun ac w β j8 Dc S=>?_)
 ·refine S.go 17 (.cons (qN (show GT.rd bz _ _ (fy.take (min fy.length 80:Nat)) ((rF.1.b8 0 6,fun i=>rF.2 (0+i)):af bV) from pJ (S.arg Ah) (a:=0) (b:=(min fy.length 80:Nat)) (by omega) (by omega)) (l:=(min fy.length 80:Nat)) (k:=k) (i:=(k:Int)) (by omega) rfl (by omega) Tryz.underlying25 (by kernel_rfl)) (.cons (dR (show GT.rd bz _ _ (fy.take (min fy.length 80:Nat)) ((rF.1.b8 0 6,fun i=>rF.2 (0+i)):af bV) from pJ (S.arg Ah) (a:=0) (b:=(min fy.length 80:Nat)) (by omega) (by omega)) 32 k) .nil)) fun ac w β S=>S.fk (r:=(ei Y (el (fy.take (min fy.length 80:Nat)) k)).1) (r':=(ei Y (el (fy.take (min fy.length 80:Nat)) k)).2) (d:=25) (XO w Y lp (S.rd dd.al) (el (fy.take (min fy.length 80:Nat)) k) (ag.el (show GT.rd bz _ _ (fy.take (min fy.length 80:Nat)) ((rF.1.b8 0 6,fun i=>rF.2 (0+i)):af bV) from pJ (S.arg Ah) (a:=0) (b:=(min fy.length 80:Nat)) (by omega) (by omega)) k (by omega))) fun ac w N nC e0 k7 c5 S up gg cN d28 d29 d30=>?_
  have d33:=J.w d28 fa.sub
  replace fa:=fa.up up
  replace dd:=dd.up up
  clear up d28
  clear d29
  have i35:kA (ei Y (el (fy.take (min fy.length 80:Nat)) k)).2:=cN.own
  refine S.go 18 .nil fun ac w β S=>S.hB (α:=da) (x:=(ei Y (el (fy.take (min fy.length 80:Nat)) k)).2) (p:=()) (F:=aa) i35 (fun b h=>False.elim h) (fun b h=>False.elim h) (d:=31) fun ac w N e6 gy S up gT d39=>?_
  replace fa:=fa.up up
  replace gg:=gg.up up
  clear up d39
  refine S.kj (α:=da) fa gT.al (fun _ _ h=>h) (by':=16) (d:=32) (lx:=acc.length) (ly:=1) rfl rfl (show _<=4194304 by simp only [List.length_append,List.length_cons,List.length_nil];omega) fun ac w N kP wW S up pw d45=>?_
  have d46:=d45 _ (J.symm d33) gg.sub
  replace gg:=gg.bp (J.symm d33) up
  clear up d45
  refine S.ge 8 (.cons (cO (k:Int) 1) .nil) f18 fun ac w β S=>aei.of (min fy.length 80-(k+1)) _ _ (by omega) ⟨k+1,(ei Y (el (fy.take (min fy.length 80:Nat)) k)).1,(acc++[(ei Y (el (fy.take (min fy.length 80:Nat)) k)).2]),kP,wW,nC,k7,_,_,_,rfl,?_,?_,?_,S.z,pw,gg,(J.symm d46)⟩
  ·exact dn
  ·clear S;(simp;omega)
  ·clear S;exact akG (by rw [List.length_take];omega) bm
 refine S.aP 15 .nil [GT.val Y lp,ab acc.length oO.1] fun ac w β S=>?_
 exact akw S (show(p2 all fy).1=Y by clear S;(unfold p2;rw [U2,UF (by rw [List.length_take];omega) bm];done)) (show(p2 all fy).2=acc by clear S;(unfold p2;rw [U2,UF (by rw [List.length_take];omega) bm];done)) rfl rfl dd fa (J.symm d17)
theorem YU (w0:World) (l:List bV) (pl:af bV) (hl:br w0 l pl):Calls Tryz.prog 9 [ab l.length pl.1].toArray w0 (dZ aa w0 (k1 l:List bV)):=by
 refine Calls.run aa Tryz.func9 ?_
 intro ac β S
 have tZ:l.length<=4194304:=ag.le hl
 refine S.go 7 .nil fun ac w β S=>S.gx (α:=bV) (d:=5) fun ac w N ae aX S up au d4=>?_
 clear up d4
 refine S.go 10 .nil fun ac w β S=>?_
 refine ek (fun bG ac w=>∃(k:Nat) (acc:List bV) (bZ:_) (b7:_) (u:_) (N:_) (β:_),bG=l.length-k/\(k<=l.length)/\(acc=k1 (l.take k))/\aj Tryz.prog Tryz.f9.ntmps w0 aa u N β ⟨[(0,.v (ab l.length pl.1)),(3,.v (ab acc.length bZ.1)),(4,.v (R (k:Int)))],[]⟩ ac w/\ai w0 aa u N b7 acc bZ) _ ⟨0,([]:List bV),ae,aX,_,_,_,rfl,cL,(by rfl),S.z,au⟩ ?_
 clear S au
 rintro f8 bG g0 ac w ⟨k,acc,bZ,b7,u,N,β,rfl,hk,cD,S,ak⟩
 refine S.rs fun S=>?_
 have lH:acc.length<=k:=by rw [cD];exact Nat.le_trans (List.length_filter_le _ _) (by simp;omega)
 refine S.a8 9 .nil (decide ((k:Int)<(l.length:Int))) (fun ac w β dq fM S=>?_) (fun ac w β dq fM S=>?_)
 ·refine S.bs 16 (.cons (cA (S.arg hl) k Tryz.underlying25) (.cons (dG (S.arg hl) 3 k 0 (R (el l k).kind)) (.cons (aY fun w hw=>Gi w (el l k).kind) .nil))) (!(mL (el l k).kind)) (fun ac w β eU S=>?_) (fun ac w β eU S=>?_)
  ·have ni:=cw eU
   refine S.go 7 (.cons (cA (S.arg hl) k Tryz.underlying25) (.cons (dR (S.arg hl) 32 k) .nil)) fun ac w β S=>S.hB (α:=bV) (x:=(el l k)) (p:=()) (F:=aa) (ag.el (S.arg hl) k (by omega)) (fun b h=>False.elim h) (fun b h=>False.elim h) (d:=24) fun ac w N lp kv S up dd d17=>?_
   replace ak:=ak.up up
   clear up d17
   refine S.kj (α:=bV) ak dd.al (fun _ _ h=>h) (by':=48) (d:=25) (lx:=acc.length) (ly:=1) rfl rfl (show _<=4194304 by simp only [List.length_append,List.length_cons,List.length_nil];omega) fun ac w N ie jH S up gS d22=>?_
   clear up d22
   refine S.ge 9 (.cons (cO (k:Int) 1) .nil) f8 fun ac w β S=>g0.of (l.length-(k+1)) _ _ (by omega) ⟨k+1,(acc++[(el l k)]),ie,jH,_,_,_,rfl,?_,?_,S.z,gS⟩
   ·exact dn
   ·clear S;rw [iH (by omega)];simp_all [k1]
  have fR:=cl eU
  refine S.ge 9 (.cons (cO (k:Int) 1) .nil) f8 fun ac w β S=>g0.of (l.length-(k+1)) _ _ (by omega) ⟨k+1,acc,bZ,b7,_,_,_,rfl,?_,?_,S.z,ak⟩
  ·exact dn
  ·clear S;rw [iH (by omega)];simp_all [k1]
 refine S.aP 13 .nil [ab acc.length bZ.1] fun ac w β S=>?_
 exact cT S (show k1 l=acc by clear S;rw [cD,fj (by omega)]) rfl ak
theorem YV (w0:World) (l:List (List Int)) (pl:af (List Int)) (hl:br w0 l pl):Calls Tryz.prog 196 [ab l.length pl.1].toArray w0 (dZ aa w0 (l:List (List Int))):=by
 refine Calls.run aa Tryz.func196 ?_
 intro ac β S
 have tZ:l.length<=4194304:=ag.le hl
 refine S.go 7 .nil fun ac w β S=>S.gx (α:=List Int) (d:=5) fun ac w N ae aX S up au d4=>?_
 clear up d4
 refine S.go 10 .nil fun ac w β S=>?_
 refine ek (fun bG ac w=>∃(k:Nat) (acc:List (List Int)) (bZ:_) (b7:_) (u:_) (N:_) (β:_),bG=l.length-k/\(k<=l.length)/\(acc=l.take k)/\aj Tryz.prog Tryz.f196.ntmps w0 aa u N β ⟨[(0,.v (ab l.length pl.1)),(3,.v (ab acc.length bZ.1)),(4,.v (R (k:Int)))],[]⟩ ac w/\ai w0 aa u N b7 acc bZ) _ ⟨0,([]:List (List Int)),ae,aX,_,_,_,rfl,cL,(by simp),S.z,au⟩ ?_
 clear S au
 rintro f8 bG g0 ac w ⟨k,acc,bZ,b7,u,N,β,rfl,hk,cD,S,ak⟩
 refine S.rs fun S=>?_
 have lH:acc.length=k:=by rw [cD];simp;omega
 refine S.a8 9 .nil (decide ((k:Int)<(l.length:Int))) (fun ac w β dq fM S=>?_) (fun ac w β dq fM S=>?_)
 ·refine S.go 7 .nil fun ac w β S=>S.gx (α:=Int) (d:=13) fun ac w N gF fP S up cJ d15=>?_
  have d16:=J.w d15 ak.sub
  replace ak:=ak.up up
  clear up d15
  have NM:(el l k).length<=4194304:=ag.le (ag.el (S.arg hl) k (by omega))
  refine S.go 4 (.cons (cA (S.arg hl) k Tryz.underlying33) (.cons (cn (S.arg hl) 28 k) .nil)) fun ac w β S=>S.nH (α:=Int) cJ (ag.el (S.arg hl) k (by omega)) (fun _ _ h=>h) (by':=8) (d:=18) (lx:=0) (ly:=(el l k).length) rfl fun ac w N mn lV S up eg d20=>?_
  have d22:=d20 _ d16 ak.sub
  replace ak:=ak.bp d16 up
  clear up d20
  refine S.hB (α:=List Int) (x:=(el l k)) (p:=mn) eg.own eg.sub eg.cU (d:=19) fun ac w N e0 k7 S up eI d26=>?_
  have d27:=d26 _ d22 ak.sub
  replace ak:=ak.up up
  clear up d26
  refine S.qG (α:=List Int) ak eI d27 (by':=24) (d:=20) (lx:=acc.length) (ly:=1) rfl rfl (show _<=4194304 by simp only [List.length_append,List.length_cons,List.length_nil];omega) fun ac w N gv hS S up fh d31=>?_
  clear up d31
  refine S.ge 9 (.cons (cO (k:Int) 1) .nil) f8 fun ac w β S=>g0.of (l.length-(k+1)) _ _ (by omega) ⟨k+1,(acc++[(el l k)]),gv,hS,_,_,_,rfl,?_,?_,S.z,fh⟩
  ·exact dn
  ·clear S;(first|(rw [iH (by omega),cD];done)|(rw [iH (by omega),cD];simp;done))
 refine S.aP 13 .nil [ab acc.length bZ.1] fun ac w β S=>?_
 exact cT S (show l=acc by clear S;(rw [cD,fj (by omega)])) rfl ak
theorem Y0 (w0:World) (g:az) (cv:dB) (aJ:br w0 g cv):Calls Tryz.prog 206 [GT.val g cv].toArray w0 (dZ aa w0 (g:az)):=by
 refine Calls.run aa Tryz.func206 ?_
 intro ac β S
 have nT:g.prog.length<=4194304:=ag.le (a5.prog (d:=g) aJ)
 have nV:g.written.length<=4194304:=ag.le (a5.written (d:=g) aJ)
 have nS:g.live.length<=4194304:=ag.le (a5.live (d:=g) aJ)
 have nU:g.seen.length<=4194304:=ag.le (a5.seen (d:=g) aJ)
 refine S.go 8 .nil fun ac w β S=>S.gx (α:=cE) (d:=3) fun ac w N ae aX S up au d4=>?_
 clear up d4
 have xa:g.prog.length<=4194304:=ag.le (a5.prog (d:=g) (S.arg aJ))
 refine S.go 2 .nil fun ac w β S=>S.nH (α:=cE) au (a5.prog (d:=g) (S.arg aJ)) (fun _ _ h=>h) (by':=16) (d:=6) (lx:=0) (ly:=g.prog.length) rfl fun ac w N bZ b7 S up ak d8=>?_
 clear up d8
 refine S.go 6 .nil fun ac w β S=>S.gx (α:=aA) (d:=8) fun ac w N dH dy S up aW d13=>?_
 have d14:=J.w d13 ak.sub
 replace ak:=ak.up up
 clear up d13
 have ani:g.written.length<=4194304:=ag.le (a5.written (d:=g) (S.arg aJ))
 refine S.go 2 .nil fun ac w β S=>S.nH (α:=aA) aW (a5.written (d:=g) (S.arg aJ)) (fun _ _ h=>h) (by':=16) (d:=11) (lx:=0) (ly:=g.written.length) rfl fun ac w N lM mZ S up ef d18=>?_
 have d20:=d18 _ d14 ak.sub
 replace ak:=ak.bp d14 up
 clear up d18
 refine S.go 6 .nil fun ac w β S=>S.gx (α:=aA) (d:=13) fun ac w N jO hR S up bY d24=>?_
 have d25:=J.w d24 ak.sub
 have d26:=J.w d24 ef.sub
 replace ak:=ak.up up
 replace ef:=ef.up up
 clear up d24
 have qV:g.live.length<=4194304:=ag.le (a5.live (d:=g) (S.arg aJ))
 refine S.go 2 .nil fun ac w β S=>S.nH (α:=aA) bY (a5.live (d:=g) (S.arg aJ)) (fun _ _ h=>h) (by':=16) (d:=16) (lx:=0) (ly:=g.live.length) rfl fun ac w N g2 gW S up hq d30=>?_
 have d32:=d30 _ d25 ak.sub
 have d33:=d30 _ d26 ef.sub
 replace ak:=ak.bp d25 up
 replace ef:=ef.bp d26 up
 clear up d30
 refine S.go 6 .nil fun ac w β S=>S.gx (α:=Int) (d:=18) fun ac w N fc kU S up hO d37=>?_
 have d38:=J.w d37 ak.sub
 have d39:=J.w d37 ef.sub
 have d40:=J.w d37 hq.sub
 replace ak:=ak.up up
 replace ef:=ef.up up
 replace hq:=hq.up up
 clear up d37
 have ant:g.seen.length<=4194304:=ag.le (a5.seen (d:=g) (S.arg aJ))
 refine S.go 2 .nil fun ac w β S=>S.nH (α:=Int) hO (a5.seen (d:=g) (S.arg aJ)) (fun _ _ h=>h) (by':=8) (d:=21) (lx:=0) (ly:=g.seen.length) rfl fun ac w N rJ u6 S up oH d44=>?_
 have d46:=d44 _ d38 ak.sub
 have d47:=d44 _ d39 ef.sub
 have d48:=d44 _ d40 hq.sub
 replace ak:=ak.bp d38 up
 replace ef:=ef.bp d39 up
 replace hq:=hq.bp d40 up
 clear up d44
 refine S.aP 11 .nil [GT.val (⟨g.prog,g.acc,g.aN,g.written,g.live,g.bH,g.av,g.exit,g.halted,g.seen⟩:az) (⟨bZ,lM,g2,rJ⟩:dB)] fun ac w β S=>?_
 have gh:=ke (x:=(⟨g.prog,g.acc,g.aN,g.written,g.live,g.bH,g.av,g.exit,g.halted,g.seen⟩:az)) (p:=(⟨bZ,lM,g2,rJ⟩:dB)) ak ef hq oH d20 d32 d46 d33 d47 d48 (a5.acc (d:=g) (S.arg aJ)) (a5.aN (d:=g) (S.arg aJ)) (a5.bH (d:=g) (S.arg aJ)) (a5.av (d:=g) (S.arg aJ)) (a5.exit (d:=g) (S.arg aJ))
 exact cT S (show g=(⟨g.prog,g.acc,g.aN,g.written,g.live,g.bH,g.av,g.exit,g.halted,g.seen⟩:az) by clear S;(first|rfl|simp)) rfl gh
theorem Y1 (w0:World) (l:List az) (pl:af az) (hl:br w0 l pl):Calls Tryz.prog 197 [ab l.length pl.1].toArray w0 (dZ aa w0 (l:List az)):=by
 refine Calls.run aa Tryz.func197 ?_
 intro ac β S
 have tZ:l.length<=4194304:=ag.le hl
 refine S.go 7 .nil fun ac w β S=>S.gx (α:=az) (d:=5) fun ac w N ae aX S up au d4=>?_
 clear up d4
 refine S.go 10 .nil fun ac w β S=>?_
 refine ek (fun bG ac w=>∃(k:Nat) (acc:List az) (bZ:_) (b7:_) (u:_) (N:_) (β:_),bG=l.length-k/\(k<=l.length)/\(acc=l.take k)/\aj Tryz.prog Tryz.f197.ntmps w0 aa u N β ⟨[(0,.v (ab l.length pl.1)),(3,.v (ab acc.length bZ.1)),(4,.v (R (k:Int)))],[]⟩ ac w/\ai w0 aa u N b7 acc bZ) _ ⟨0,([]:List az),ae,aX,_,_,_,rfl,cL,(by simp),S.z,au⟩ ?_
 clear S au
 rintro f8 bG g0 ac w ⟨k,acc,bZ,b7,u,N,β,rfl,hk,cD,S,ak⟩
 refine S.rs fun S=>?_
 have lH:acc.length=k:=by rw [cD];simp;omega
 refine S.a8 9 .nil (decide ((k:Int)<(l.length:Int))) (fun ac w β dq fM S=>?_) (fun ac w β dq fM S=>?_)
 ·refine S.go 11 (.cons (cA (S.arg hl) k Tryz.underlying68) (.cons (dR (S.arg hl) 102 k) .nil)) fun ac w β S=>S.ct (r:=(el l k)) (d:=17) (Y0 w (el l k) (pl.2 k) (S.rd (ag.el (S.arg hl) k (by omega)))) fun ac w N gF fP S up cJ d15=>?_
  have d16:=J.w d15 ak.sub
  replace ak:=ak.up up
  clear up d15
  refine S.hB (α:=az) (x:=(el l k)) (p:=gF) cJ.own cJ.sub cJ.cU (d:=18) fun ac w N mn lV S up eg d20=>?_
  have d21:=d20 _ d16 ak.sub
  replace ak:=ak.up up
  clear up d20
  refine S.qG (α:=az) ak eg d21 (by':=184) (d:=19) (lx:=acc.length) (ly:=1) rfl rfl (show _<=4194304 by simp only [List.length_append,List.length_cons,List.length_nil];omega) fun ac w N nC oa S up c4 d25=>?_
  clear up d25
  refine S.ge 9 (.cons (cO (k:Int) 1) .nil) f8 fun ac w β S=>g0.of (l.length-(k+1)) _ _ (by omega) ⟨k+1,(acc++[(el l k)]),nC,oa,_,_,_,rfl,?_,?_,S.z,c4⟩
  ·exact dn
  ·clear S;(first|(rw [iH (by omega),cD];done)|(rw [iH (by omega),cD];simp;done))
 refine S.aP 13 .nil [ab acc.length bZ.1] fun ac w β S=>?_
 exact cT S (show l=acc by clear S;(rw [cD,fj (by omega)])) rfl ak
theorem YW (w0:World) (k:bO) (fH:hI) (hk:br w0 k fH):Calls Tryz.prog 198 [GT.val k fH].toArray w0 (dZ aa w0 (k:bO)):=by
 refine Calls.run aa Tryz.func198 ?_
 intro ac β S
 have x_:k.known.length<=4194304:=ag.le (hV.known (d:=k) hk)
 have ya:k.bN.length<=4194304:=ag.le (hV.bN (d:=k) hk)
 refine S.go 7 .nil fun ac w β S=>?_
 refine dj ?_
 let bf:bw:=⟨[(1,.p 0 0),(2,.p 1 0)],[GT.cells k fH,c2 bO]⟩
 obtain⟨ba,a_,bg,S⟩:∃ba a_ bg,aj Tryz.prog Tryz.f198.ntmps w0 aa ba a_ bg bf ac w:=⟨_,_,_,S.z⟩
 refine lT (fun ac w=>∃jF oZ dW eu u N β,aj Tryz.prog Tryz.f198.ntmps w0 aa u N β (bf.dl [1] [] 2 [(1,[ab k.known.length dW.1,ab k.bN.length jF.1])]) ac w/\ai w0 aa u N oZ k.bN jF/\ai w0 aa u N eu k.known dW/\J oZ eu) ?_ ?_
 ·refine S.df (f:=10) 9 (by kernel_rfl) (by kernel_rfl) fun w S=>?_
  refine S.hm 6 [1,2,5,6] [] [(5,.v (ab k.known.length fH.known.1)),(9,.v (ab k.bN.length fH.bN.1))] .nil fun ac S=>?_
  refine ao.mh fun W aO=>?_
  refine ao.l0 (l':=cc 10 [1,2,5,6]) (by kernel_rfl) ?_
  have ao5 ac w jF oZ dW eu u N β (S:aj Tryz.prog Tryz.f198.ntmps w0 aa u N β (bf.dl [1] [] 2 [(1,[ab k.known.length dW.1,ab k.bN.length jF.1])]) ac w) (lJ:ai w0 aa u N oZ k.bN jF) (c4:ai w0 aa u N eu k.known dW) (d63:J oZ eu):W 0 (cc 10 [0,1,2,3,4,5,6,7,8,9]) ac w:=by
   exact mi aO ⟨rfl,jF,oZ,dW,eu,_,_,_,S.z,lJ,c4,d63⟩
  have adE ac w jF oZ dW eu u N β (S:aj Tryz.prog Tryz.f198.ntmps w0 aa u N β (bf.dl [1] [(6,.v (ab k.known.length dW.1)),(10,.v (ab k.bN.length jF.1))] 2 []) ac w) (lJ:ai w0 aa u N oZ k.bN jF) (c4:ai w0 aa u N eu k.known dW) (d65:J oZ eu) (an:cZ a_ ba N u) (aL:cr bf.ay.length bg β):W 2 (cc 10 [0,1,2,3,4,5,6,7]) ac w:=by
   exact S.hQ aO an aL (bf.dl [1] [] 2 [(1,[ab k.known.length dW.1,ab k.bN.length jF.1])]) 1 (.cons 8 (dY (s:=Instr.build 105 [(0,ab k.known.length dW.1),(1,ab k.bN.length jF.1)].toArray) (v:= .agg [ab k.known.length dW.1,ab k.bN.length jF.1].toArray) (fun w=>by kernel_rfl)) .nil) fun _ _ _ S=>⟨rfl,jF,oZ,dW,eu,_,_,_,S,lJ,c4,d65⟩
  have Qg ac w dW eu b3 cm u N β (S:aj Tryz.prog Tryz.f198.ntmps w0 aa u N β (bf.dl [1] [(6,.v (ab k.known.length dW.1)),(7,.v (ab 0 b3.1)),(9,.v (ab k.bN.length fH.bN.1))] 2 []) ac w) (c4:ai w0 aa u N eu k.known dW) (aT:ai w0 aa u N cm ([]:List aA) b3) (d67:J eu cm) (an:∀b,a_ b->N b/\u.heap[b]? =ba.heap[b]? /\¬cm b) (aL:cr bf.ay.length bg β):W 3 (cc 10 [0,1,2,3,4,5,6]) ac w:=by
   refine eJ aO 7 ?_
   have anv:k.bN.length<=4194304:=ag.le (hV.bN (d:=k) (S.arg hk))
   refine id (S.pR (α:=aA) aT (hV.bN (d:=k) (S.arg hk)) (fun _ _ h=>h) (by':=16) (d:=10) (lx:=0) (ly:=k.bN.length) rfl fun ac w N yN y9 S up uD d71=>?_)
   have Q8:=fun b h=>(⟨(up b (an b h).1 (an b h).2.2).1,(up b (an b h).1 (an b h).2.2).2.trans (an b h).2.1⟩:_/\_)
   refine ao.dA S Q8 aL fun bx=>?_
   have d74:=d71 _ d67 c4.sub
   replace c4:=c4.bp d67 up
   clear up d71
   exact S.dp aO [] bx fun _ S=>adE _ _ yN y9 dW eu _ _ _ S uD c4 (J.symm d74) Q8 aL
  have adJ ac w dW eu u N β (S:aj Tryz.prog Tryz.f198.ntmps w0 aa u N β (bf.dl [1] [(6,.v (ab k.known.length dW.1)),(9,.v (ab k.bN.length fH.bN.1))] 2 []) ac w) (c4:ai w0 aa u N eu k.known dW) (an:cZ a_ ba N u) (aL:cr bf.ay.length bg β):W 4 (cc 10 [0,1,2,3,5,6]) ac w:=by
   refine eJ aO 4 ?_
   refine id (S.jq (α:=aA) (d:=7) (by kernel_rfl) fun ac w N LP FG S up qo d79=>?_)
   have x4:=fun b h=>(⟨(up b (an b h).1).1,(up b (an b h).1).2.trans (an b h).2,d79 b (an b h).1⟩:_/\_/\_)
   refine ao.dA S (fun b h=>⟨(x4 b h).1,(x4 b h).2.1⟩) aL fun bx=>?_
   have d81:=J.w d79 c4.sub
   replace c4:=c4.up up
   clear up d79
   exact S.dp aO [] bx fun _ S=>Qg _ _ dW eu LP FG _ _ _ S c4 qo d81 x4 aL
  have Qh ac w bE bI b3 cm u N β (S:aj Tryz.prog Tryz.f198.ntmps w0 aa u N β (bf.dl [1] [(3,.v (ab 0 bE.1)),(5,.v (ab k.known.length fH.known.1)),(7,.v (ab 0 b3.1)),(9,.v (ab k.bN.length fH.bN.1))] 2 []) ac w) (ak:ai w0 aa u N bI ([]:List Bool) bE) (aT:ai w0 aa u N cm ([]:List aA) b3) (d83:J bI cm) (an:∀b,a_ b->N b/\u.heap[b]? =ba.heap[b]? /\¬bI b/\¬cm b) (aL:cr bf.ay.length bg β):W 4 (cc 10 [0,1,2,4,5,6]) ac w:=by
   refine eJ aO 3 ?_
   have anx:k.known.length<=4194304:=ag.le (hV.known (d:=k) (S.arg hk))
   refine id (S.pR (α:=Bool) ak (hV.known (d:=k) (S.arg hk)) (fun _ _ h=>h) (by':=1) (d:=6) (lx:=0) (ly:=k.known.length) rfl fun ac w N n2 FH S up yA d87=>?_)
   have IS:=fun b h=>(⟨(up b (an b h).1 (an b h).2.2.1).1,(up b (an b h).1 (an b h).2.2.1).2.trans (an b h).2.1,(an b h).2.2.2⟩:_/\_/\_)
   refine ao.dA S (fun b h=>⟨(IS b h).1,(IS b h).2.1⟩) aL fun bx=>?_
   have d90:=d87 _ (J.symm d83) aT.sub
   replace aT:=aT.bp (J.symm d83) up
   clear up d87
   exact S.dp aO [] bx fun _ S=>Qg _ _ n2 FH b3 cm _ _ _ S yA aT (J.symm d90) IS aL
  have adR ac w bE bI u N β (S:aj Tryz.prog Tryz.f198.ntmps w0 aa u N β (bf.dl [1] [(3,.v (ab 0 bE.1)),(5,.v (ab k.known.length fH.known.1)),(9,.v (ab k.bN.length fH.bN.1))] 2 []) ac w) (ak:ai w0 aa u N bI ([]:List Bool) bE) (an:∀b,a_ b->N b/\u.heap[b]? =ba.heap[b]? /\¬bI b) (aL:cr bf.ay.length bg β):W 5 (cc 10 [0,1,2,5,6]) ac w:=by
   refine jC aO 3 4 ?_ ?_
   ·have anz:k.known.length<=4194304:=ag.le (hV.known (d:=k) (S.arg hk))
    refine id (S.pR (α:=Bool) ak (hV.known (d:=k) (S.arg hk)) (fun _ _ h=>h) (by':=1) (d:=6) (lx:=0) (ly:=k.known.length) rfl fun ac w N LQ wZ S up nx d95=>?_)
    have Ra:=fun b h=>(⟨(up b (an b h).1 (an b h).2.2).1,(up b (an b h).1 (an b h).2.2).2.trans (an b h).2.1⟩:_/\_)
    refine ao.dA S Ra aL fun bx=>?_
    clear up d95
    exact S.dp aO [] bx fun _ S=>adJ _ _ LQ wZ _ _ _ S nx Ra aL
   ·refine id (S.jq (α:=aA) (d:=7) (by kernel_rfl) fun ac w N LR Nj S up A1 d101=>?_)
    have Ik:=fun b h=>(⟨(up b (an b h).1).1,(up b (an b h).1).2.trans (an b h).2.1,(an b h).2.2,d101 b (an b h).1⟩:_/\_/\_/\_)
    refine ao.dA S (fun b h=>⟨(Ik b h).1,(Ik b h).2.1⟩) aL fun bx=>?_
    have d103:=J.w d101 ak.sub
    replace ak:=ak.up up
    clear up d101
    exact S.dp aO [] bx fun _ S=>Qh _ _ bE bI LR Nj _ _ _ S ak A1 d103 Ik aL
  have ac5 ac w b3 cm u N β (S:aj Tryz.prog Tryz.f198.ntmps w0 aa u N β (bf.dl [1] [(5,.v (ab k.known.length fH.known.1)),(7,.v (ab 0 b3.1)),(9,.v (ab k.bN.length fH.bN.1))] 2 []) ac w) (aT:ai w0 aa u N cm ([]:List aA) b3) (an:∀b,a_ b->N b/\u.heap[b]? =ba.heap[b]? /\¬cm b) (aL:cr bf.ay.length bg β):W 5 (cc 10 [1,2,4,5,6]) ac w:=by
   refine eJ aO 0 ?_
   refine id (S.jq (α:=Bool) (d:=3) (by kernel_rfl) fun ac w N LC Vn S up we d108=>?_)
   have Il:=fun b h=>(⟨(up b (an b h).1).1,(up b (an b h).1).2.trans (an b h).2.1,d108 b (an b h).1,(an b h).2.2⟩:_/\_/\_/\_)
   refine ao.dA S (fun b h=>⟨(Il b h).1,(Il b h).2.1⟩) aL fun bx=>?_
   have d110:=J.w d108 aT.sub
   replace aT:=aT.up up
   clear up d108
   exact S.dp aO [] bx fun _ S=>Qh _ _ LC Vn b3 cm _ _ _ S we aT (J.symm d110) Il aL
  have an:cZ a_ ba a_ ba:=fun b h=>⟨h,rfl⟩
  have aL:cr bf.ay.length bg bg:=fun _ _=>rfl
  refine jC aO 0 4 ?_ ?_
  ·refine id (S.jq (α:=Bool) (d:=3) (by kernel_rfl) fun ac w N ajd Vq S up ag6 d114=>?_)
   have x2:=fun b h=>(⟨(up b (an b h).1).1,(up b (an b h).1).2.trans (an b h).2,d114 b (an b h).1⟩:_/\_/\_)
   refine ao.dA S (fun b h=>⟨(x2 b h).1,(x2 b h).2.1⟩) aL fun bx=>?_
   clear up d114
   exact S.dp aO [] bx fun _ S=>adR _ _ ajd Vq _ _ _ S ag6 x2 aL
  ·refine id (S.jq (α:=aA) (d:=7) (by kernel_rfl) fun ac w N ajh y5 S up nW d119=>?_)
   have Im:=fun b h=>(⟨(up b (an b h).1).1,(up b (an b h).1).2.trans (an b h).2,d119 b (an b h).1⟩:_/\_/\_)
   refine ao.dA S (fun b h=>⟨(Im b h).1,(Im b h).2.1⟩) aL fun bx=>?_
   clear up d119
   exact S.dp aO [] bx fun _ S=>ac5 _ _ ajh y5 _ _ _ S nW Im aL
 clear S
 rintro ac w ⟨jF,oZ,dW,eu,u,N,β,S,lJ,c4,d121⟩
 refine S.ex fun S=>?_
 refine S.aP 2 .nil [GT.val (⟨k.known,k.bN⟩:bO) (⟨dW,jF⟩:hI)] fun ac w β S=>?_
 have sL:=pD (x:=(⟨k.known,k.bN⟩:bO)) (p:=(⟨dW,jF⟩:hI)) c4 lJ (J.symm d121)
 exact cT S (show k=(⟨k.known,k.bN⟩:bO) by clear S;(first|rfl|simp)) rfl sL
theorem Y6 (w0:World) (m:aZ) (pm:g6) (hm:br w0 m pm):Calls Tryz.prog 173 [GT.val m pm].toArray w0 (dZ aa w0 (m:aZ)):=by
 refine Calls.run aa Tryz.func173 ?_
 intro ac β S
 have Rw:m.outer.length<=4194304:=ag.le (bn.outer (d:=m) hm)
 have Rv:m.out.length<=4194304:=ag.le (bn.out (d:=m) hm)
 have Rt:m.bj.length<=4194304:=ag.le (bn.bj (d:=m) hm)
 have Ru:m.U.length<=4194304:=ag.le (bn.U (d:=m) hm)
 have Rx:m.outs.length<=4194304:=ag.le (bn.outs (d:=m) hm)
 have Ry:m.tables.length<=4194304:=ag.le (bn.tables (d:=m) hm)
 refine S.go 8 .nil fun ac w β S=>S.gx (α:=aA) (d:=5) fun ac w N ae aX S up au d4=>?_
 clear up d4
 have xa:m.outer.length<=4194304:=ag.le (bn.outer (d:=m) (S.arg hm))
 refine S.go 2 .nil fun ac w β S=>S.nH (α:=aA) au (bn.outer (d:=m) (S.arg hm)) (fun _ _ h=>h) (by':=16) (d:=8) (lx:=0) (ly:=m.outer.length) rfl fun ac w N bZ b7 S up ak d8=>?_
 clear up d8
 refine S.go 8 .nil fun ac w β S=>S.ct (r:=m.out) (d:=12) (YV w m.out pm.out (S.rd (bn.out (d:=m) (S.arg hm)))) fun ac w N dH dy S up aW d13=>?_
 have d14:=J.w d13 ak.sub
 replace ak:=ak.up up
 clear up d13
 refine S.go 6 .nil fun ac w β S=>S.gx (α:=Bool) (d:=14) fun ac w N lM mZ S up ef d18=>?_
 have d19:=J.w d18 ak.sub
 have d20:=J.w d18 aW.sub
 replace ak:=ak.up up
 replace aW:=aW.up up
 clear up d18
 have anl:m.bj.length<=4194304:=ag.le (bn.bj (d:=m) (S.arg hm))
 refine S.go 2 .nil fun ac w β S=>S.nH (α:=Bool) ef (bn.bj (d:=m) (S.arg hm)) (fun _ _ h=>h) (by':=1) (d:=17) (lx:=0) (ly:=m.bj.length) rfl fun ac w N jO hR S up bY d24=>?_
 have d26:=d24 _ d19 ak.sub
 have d27:=d24 _ d20 aW.sub
 replace ak:=ak.bp d19 up
 replace aW:=aW.bp d20 up
 clear up d24
 refine S.go 8 .nil fun ac w β S=>S.ct (r:=m.U) (d:=21) (Y1 w m.U pm.U (S.rd (bn.U (d:=m) (S.arg hm)))) fun ac w N gv hS S up fh d31=>?_
 have d32:=J.w d31 ak.sub
 have d33:=J.w d31 aW.sub
 have d34:=J.w d31 bY.sub
 replace ak:=ak.up up
 replace aW:=aW.up up
 replace bY:=bY.up up
 clear up d31
 refine S.go 6 .nil fun ac w β S=>S.gx (α:=Int) (d:=23) fun ac w N nD k8 S up eO d38=>?_
 have d39:=J.w d38 ak.sub
 have d40:=J.w d38 aW.sub
 have d41:=J.w d38 bY.sub
 have d42:=J.w d38 fh.sub
 replace ak:=ak.up up
 replace aW:=aW.up up
 replace bY:=bY.up up
 replace fh:=fh.up up
 clear up d38
 have NO:m.outs.length<=4194304:=ag.le (bn.outs (d:=m) (S.arg hm))
 refine S.go 2 .nil fun ac w β S=>S.nH (α:=Int) eO (bn.outs (d:=m) (S.arg hm)) (fun _ _ h=>h) (by':=8) (d:=26) (lx:=0) (ly:=m.outs.length) rfl fun ac w N mo lW S up fu d46=>?_
 have d48:=d46 _ d39 ak.sub
 have d49:=d46 _ d40 aW.sub
 have d50:=d46 _ d41 bY.sub
 have d51:=d46 _ d42 fh.sub
 replace ak:=ak.bp d39 up
 replace aW:=aW.bp d40 up
 replace bY:=bY.bp d41 up
 replace fh:=fh.bp d42 up
 clear up d46
 refine S.go 6 .nil fun ac w β S=>S.gx (α:=bO) (d:=28) fun ac w N Ul FA S up wm d55=>?_
 have d56:=J.w d55 ak.sub
 have d57:=J.w d55 aW.sub
 have d58:=J.w d55 bY.sub
 have d59:=J.w d55 fh.sub
 have d60:=J.w d55 fu.sub
 replace ak:=ak.up up
 replace aW:=aW.up up
 replace bY:=bY.up up
 replace fh:=fh.up up
 replace fu:=fu.up up
 clear up d55
 refine S.go 10 .nil fun ac w β S=>?_
 refine ek (fun bG ac w=>∃(k:Nat) (acc:List bO) (pH:_) (pP:_) (u:_) (N:_) (β:_),bG=m.tables.length-k/\(k<=m.tables.length)/\(acc=m.tables.take k)/\aj Tryz.prog Tryz.f173.ntmps w0 aa u N β ⟨[(1,.p 0 0),(2,.p 1 0),(3,.v (ab acc.length pH.1)),(4,.v (R (k:Int)))],[[ab m.outer.length bZ.1,ab m.out.length dH.1,ab m.bj.length jO.1,ab m.U.length gv.1,ab m.outs.length mo.1,R m.av,R m.bQ,ab m.tables.length pm.tables.1,R m.owned],c2 aZ]⟩ ac w/\ai w0 aa u N pP acc pH/\ai w0 aa u N b7 m.outer bZ/\ai w0 aa u N dy m.out dH/\ai w0 aa u N hR m.bj jO/\ai w0 aa u N hS m.U gv/\ai w0 aa u N lW m.outs mo/\J pP b7/\J pP dy/\J pP hR/\J pP hS/\J pP lW) _ ⟨0,([]:List bO),Ul,FA,_,_,_,rfl,cL,(by simp),S.z,wm,ak,aW,bY,fh,fu,(J.symm d56),(J.symm d57),(J.symm d58),(J.symm d59),(J.symm d60)⟩ ?_
 clear S aW bY fh fu wm ak
 rintro f69 bG aev ac w ⟨k,acc,pH,pP,u,N,β,rfl,hk,cD,S,py,ak,aW,bY,fh,fu,d64,d65,d66,d67,d68⟩
 refine S.rs fun S=>?_
 have lH:acc.length=k:=by rw [cD];simp;omega
 refine S.a8 10 .nil (decide ((k:Int)<(m.tables.length:Int))) (fun ac w β Aa z2 S=>?_) (fun ac w β Aa z2 S=>?_)
 ·refine S.go 12 (.cons (cA (bn.tables (d:=m) (S.arg hm)) k Tryz.underlying69) (.cons (dR (bn.tables (d:=m) (S.arg hm)) 105 k) .nil)) fun ac w β S=>S.ct (r:=(el m.tables k)) (d:=42) (YW w (el m.tables k) (pm.tables.2 k) (S.rd (ag.el (bn.tables (d:=m) (S.arg hm)) k (by omega)))) fun ac w N wC B6 S up Bb d76=>?_
  have d77:=J.w d76 py.sub
  have d78:=J.w d76 ak.sub
  have d79:=J.w d76 aW.sub
  have d80:=J.w d76 bY.sub
  have d81:=J.w d76 fh.sub
  have d82:=J.w d76 fu.sub
  replace py:=py.up up
  replace ak:=ak.up up
  replace aW:=aW.up up
  replace bY:=bY.up up
  replace fh:=fh.up up
  replace fu:=fu.up up
  clear up d76
  refine S.hB (α:=bO) (x:=(el m.tables k)) (p:=wC) Bb.own Bb.sub Bb.cU (d:=43) fun ac w N Bm am4 S up aiA d86=>?_
  have d87:=d86 _ d77 py.sub
  have d88:=d86 _ d78 ak.sub
  have d89:=d86 _ d79 aW.sub
  have d90:=d86 _ d80 bY.sub
  have d91:=d86 _ d81 fh.sub
  have d92:=d86 _ d82 fu.sub
  replace py:=py.up up
  replace ak:=ak.up up
  replace aW:=aW.up up
  replace bY:=bY.up up
  replace fh:=fh.up up
  replace fu:=fu.up up
  clear up d86
  refine S.qG (α:=bO) py aiA d87 (by':=48) (d:=44) (lx:=acc.length) (ly:=1) rfl rfl (show _<=4194304 by simp only [List.length_append,List.length_cons,List.length_nil];omega) fun ac w N akj za S up uH d96=>?_
  have d97:=d96 _ (J.symm d64) d88 ak.sub
  have d98:=d96 _ (J.symm d65) d89 aW.sub
  have d99:=d96 _ (J.symm d66) d90 bY.sub
  have d100:=d96 _ (J.symm d67) d91 fh.sub
  have d101:=d96 _ (J.symm d68) d92 fu.sub
  replace ak:=ak.bp (J.symm d64) up
  replace aW:=aW.bp (J.symm d65) up
  replace bY:=bY.bp (J.symm d66) up
  replace fh:=fh.bp (J.symm d67) up
  replace fu:=fu.bp (J.symm d68) up
  clear up d96
  refine S.ge 9 (.cons (cO (k:Int) 1) .nil) f69 fun ac w β S=>aev.of (m.tables.length-(k+1)) _ _ (by omega) ⟨k+1,(acc++[(el m.tables k)]),akj,za,_,_,_,rfl,?_,?_,S.z,uH,ak,aW,bY,fh,fu,(J.symm d97),(J.symm d98),(J.symm d99),(J.symm d100),(J.symm d101)⟩
  ·exact dn
  ·clear S;(first|(rw [iH (by omega),cD];done)|(rw [iH (by omega),cD];simp;done))
 refine S.aP 20 .nil [GT.val (⟨m.outer,m.out,m.bj,m.U,m.outs,m.av,m.bQ,acc,m.owned⟩:aZ) (⟨bZ,dH,jO,gv,mo,pH⟩:g6)] fun ac w β S=>?_
 have hL:=Bd (x:=(⟨m.outer,m.out,m.bj,m.U,m.outs,m.av,m.bQ,acc,m.owned⟩:aZ)) (p:=(⟨bZ,dH,jO,gv,mo,pH⟩:g6)) ak aW bY fh fu py d14 d26 d32 d48 (J.symm d64) d27 d33 d49 (J.symm d65) d34 d50 (J.symm d66) d51 (J.symm d67) (J.symm d68) (bn.av (d:=m) (S.arg hm)) (bn.bQ (d:=m) (S.arg hm)) (bn.owned (d:=m) (S.arg hm))
 exact cT S (show m=(⟨m.outer,m.out,m.bj,m.U,m.outs,m.av,m.bQ,acc,m.owned⟩:aZ) by clear S;(first|rfl|(rw [cD,fj (by omega)];done)|(rw [cD,fj (by omega)];simp;done)|simp)) rfl hL
theorem D7 {p:Prop} (h:p:=by clear S;(first|(unfold aC;rw [if_pos (by omega)])|(unfold aC;rw [if_neg (by omega)]))):p:=h
theorem YK (w0:World) (h:ad) (aK:cK) (ax:br w0 h aK) (m:Int):Calls Tryz.prog 112 [GT.val h aK,R m].toArray w0 (fG aa w0 ((aC h m).1:aZ) ((aC h m).2:Bool)):=by
 refine Calls.run aa Tryz.func112 ?_
 intro ac β S
 have gO:h.mem.length<=4194304:=ag.le (a4.mem (d:=h) ax)
 have gP:h.I.length<=4194304:=ag.le (a4.I (d:=h) ax)
 have gM:h.buf.length<=4194304:=ag.le (a4.buf (d:=h) ax)
 have gN:h.ar.length<=4194304:=ag.le (a4.ar (d:=h) ax)
 refine S.bs 19 (.cons (pI (h.I.length:Int) 1) (.cons (aY fun w hw=>xf w m 0 ((h.I.length:Int)-1)) .nil)) (!(aS m 0 ((h.I.length:Int)-1))) (fun ac w β h1 S=>?_) (fun ac w β h1 S=>?_)
 ·have ah:=cw h1
  have c3:=dC ah
  refine S.aP 9 (.cons (dY (s:=Instr.build 71 [].toArray) (v:= .agg [ab ([]:List aA).length (GT.bL (α:=List aA)).1,ab ([]:List (List Int)).length (GT.bL (α:=List (List Int))).1,ab ([]:List Bool).length (GT.bL (α:=List Bool)).1,ab ([]:List az).length (GT.bL (α:=List az)).1,ab ([]:List Int).length (GT.bL (α:=List Int)).1,R 0,R 0,ab ([]:List bO).length (GT.bL (α:=List bO)).1,R 0].toArray) (fun w=>by kernel_rfl)) .nil) [GT.val (⟨([]:List aA),([]:List (List Int)),([]:List Bool),([]:List az),([]:List Int),0,0,([]:List bO),0⟩:aZ) (⟨(GT.bL (α:=List aA)),(GT.bL (α:=List (List Int))),(GT.bL (α:=List Bool)),(GT.bL (α:=List az)),(GT.bL (α:=List Int)),(GT.bL (α:=List bO))⟩:g6),B false] fun ac w β S=>?_
  have eY:=S.hp (α:=aA)
  have cG:=S.hp (α:=List Int)
  have a1:=S.hp (α:=Bool)
  have ak:=S.hp (α:=az)
  have bS:=S.hp (α:=Int)
  have a6:=S.hp (α:=bO)
  have eR:=Bd (x:=(⟨([]:List aA),([]:List (List Int)),([]:List Bool),([]:List az),([]:List Int),0,0,([]:List bO),0⟩:aZ)) (p:=(⟨(GT.bL (α:=List aA)),(GT.bL (α:=List (List Int))),(GT.bL (α:=List Bool)),(GT.bL (α:=List az)),(GT.bL (α:=List Int)),(GT.bL (α:=List bO))⟩:g6)) eY cG a1 ak bS a6 (fun b _ h=>False.elim h) (fun b _ h=>False.elim h) (fun b _ h=>False.elim h) (fun b _ h=>False.elim h) (fun b _ h=>False.elim h) (fun b _ h=>False.elim h) (fun b _ h=>False.elim h) (fun b _ h=>False.elim h) (fun b _ h=>False.elim h) (fun b _ h=>False.elim h) (fun b _ h=>False.elim h) (fun b _ h=>False.elim h) (fun b _ h=>False.elim h) (fun b _ h=>False.elim h) (fun b _ h=>False.elim h) (show aq 0 from⟨by decide,by decide⟩) (show aq 0 from⟨by decide,by decide⟩) (show aq 0 from⟨by decide,by decide⟩)
  exact cB (p':=()) S D7 D7 rfl rfl eR trivial
 have gp:=cl h1
 have q9:=cM gp
 refine S.go 10 (.cons (cP (a4.I (d:=h) (S.arg ax)) m Tryz.underlying34) (.cons (dR (a4.I (d:=h) (S.arg ax)) 71 m.toNat) .nil)) fun ac w β S=>S.ct (r:=(el h.I m.toNat)) (d:=19) (Y6 w (el h.I m.toNat) (aK.I.2 m.toNat) (S.rd (ag.el (a4.I (d:=h) (S.arg ax)) m.toNat (by omega)))) fun ac w N ic e3 S up aT d16=>?_
 clear up d16
 refine S.aP 5 .nil [GT.val (el h.I m.toNat) ic,B true] fun ac w β S=>?_
 exact cB (p':=()) S D7 D7 rfl rfl aT trivial
theorem YL (w0:World):Calls Tryz.prog 199 [].toArray w0 (fun e w'=>e= .returned (GT.val (⟨-1,0⟩:aA) ())/\bX aa w0 w'):=by
 refine Calls.run aa Tryz.func199 ?_
 intro ac β S
 exact S.bb 12 (.cons (dY (s:=Instr.build 77 [(0,R (-1))].toArray) (v:= .agg [R (-1),R 0].toArray) (fun w=>by kernel_rfl)) .nil) [GT.val (⟨(-1),0⟩:aA) ()] (mq (p:=()) (by clear S;first|rfl|(simp [id, *];done)|(simp [id, *];omega)|(simp_all [id];done)|(simp_all [id];omega)))
theorem SG {p:Prop} (h:p:=by clear S;(first|(unfold dw;rw [if_pos (by omega)])|(unfold dw;rw [if_neg (by omega)]))):p:=h
theorem YT (w0:World) (t:List aA) (aM:af aA) (bC:br w0 t aM) (page:Int):Calls Tryz.prog 174 [ab t.length aM.1,R page].toArray w0 (fun e w'=>e= .returned (GT.val (dw t page) ())/\bX aa w0 w'):=by
 refine Calls.run aa Tryz.func174 ?_
 intro ac β S
 have Dy:t.length<=4194304:=ag.le bC
 refine S.bs 16 (.cons (pI (t.length:Int) 1) (.cons (aY fun w hw=>xf w page 0 ((t.length:Int)-1)) .nil)) (!(aS page 0 ((t.length:Int)-1))) (fun ac w β h1 S=>?_) (fun ac w β h1 S=>?_)
 ·have ah:=cw h1
  have c3:=dC ah
  exact S.bb 8 (.cons (aY fun w hw=>YL w) .nil) [GT.val (⟨-1,0⟩:aA) ()] (mq (p:=()) SG)
 have b2:=cl h1
 have gb:=cM b2
 exact S.bb 13 (.cons (cP (S.arg bC) page Tryz.underlying66) (.cons (dR (S.arg bC) 77 page.toNat) .nil)) [GT.val (el t page.toNat) ()] (mq (p:=()) SG)
theorem SE {p:Prop} (h:p:=by clear S;(first|(unfold gl;rw [if_pos (by omega)];done)|(unfold gl;rw [if_pos (by omega)];first|rfl|(simp;done))|(unfold gl;rw [if_neg (by omega)];done)|(unfold gl;rw [if_neg (by omega)];first|rfl|(simp;done)))):p:=h
theorem Oq (w0:World) (m:List (List Int)) (pm:af (List Int)) (hm:br w0 m pm) (page:Int):Calls Tryz.prog 175 [ab m.length pm.1,R page].toArray w0 (dZ aa w0 (gl m page:List Int)):=by
 refine Calls.run aa Tryz.func175 ?_
 intro ac β S
 have Aw:m.length<=4194304:=ag.le hm
 refine S.bs 16 (.cons (pI (m.length:Int) 1) (.cons (aY fun w hw=>xf w page 0 ((m.length:Int)-1)) .nil)) (!(aS page 0 ((m.length:Int)-1))) (fun ac w β h1 S=>?_) (fun ac w β h1 S=>?_)
 ·have ah:=cw h1
  have c3:=dC ah
  refine S.go 3 .nil fun ac w β S=>S.rT (α:=Int) (m:=4) (by':=8) (d:=11) (by omega) (show 4<=4194304 by omega) fun ac w N lN de S up a1 d7=>?_
  clear up d7
  refine S.aP 4 .nil [ab 4 lN.1] fun ac w β S=>?_
  exact cT S SE (by rw [show 4=(List.replicate 4 (GT.dE:Int)).length from(by simp)];rfl) a1
 have e_:=cl h1
 have l_:=cM e_
 refine S.go 5 .nil fun ac w β S=>S.gx (α:=Int) (d:=12) fun ac w N dH dy S up aW d13=>?_
 clear up d13
 have NL:(el m page.toNat).length<=4194304:=ag.le (ag.el (S.arg hm) page.toNat (by omega))
 refine S.go 4 (.cons (cP (S.arg hm) page Tryz.underlying33) (.cons (cn (S.arg hm) 28 page.toNat) .nil)) fun ac w β S=>S.nH (α:=Int) aW (ag.el (S.arg hm) page.toNat (by omega)) (fun _ _ h=>h) (by':=8) (d:=17) (lx:=0) (ly:=(el m page.toNat).length) rfl fun ac w N lp kv S up dd d17=>?_
 clear up d17
 refine S.aP 4 .nil [ab (el m page.toNat).length lp.1] fun ac w β S=>?_
 exact cT S SE rfl dd
theorem D8 {p:Prop} (h:p:=by clear S;(unfold l8;(repeat' split)<;>first|rfl|(exfalso;omega)|(exfalso;simp_all;done)|(exfalso;simp_all;omega))):p:=h
theorem YM (w0:World) (h:ad) (aK:cK) (ax:br w0 h aK) (m:Int) (page:Int):Calls Tryz.prog 113 [GT.val h aK,R m,R page].toArray w0 (dZ aa w0 (l8 h m page:List Int)):=by
 refine Calls.run aa Tryz.func113 ?_
 intro ac β S
 have gO:h.mem.length<=4194304:=ag.le (a4.mem (d:=h) ax)
 have gP:h.I.length<=4194304:=ag.le (a4.I (d:=h) ax)
 have gM:h.buf.length<=4194304:=ag.le (a4.buf (d:=h) ax)
 have gN:h.ar.length<=4194304:=ag.le (a4.ar (d:=h) ax)
 refine S.bs 17 (.cons (pI (h.I.length:Int) 1) (.cons (aY fun w hw=>xf w m 0 ((h.I.length:Int)-1)) .nil)) (!(aS m 0 ((h.I.length:Int)-1))) (fun ac w β h1 S=>?_) (fun ac w β h1 S=>?_)
 ·have ah:=cw h1
  have c3:=dC ah
  refine S.go 9 .nil fun ac w β S=>S.rT (α:=Int) (m:=4) (by':=8) (d:=21) (by omega) (show 4<=4194304 by omega) fun ac w N lN de S up a1 d7=>?_
  clear up d7
  refine S.aP 4 .nil [ab 4 lN.1] fun ac w β S=>?_
  exact cT S D8 (by rw [show 4=(List.replicate 4 (GT.dE:Int)).length from(by simp)];rfl) a1
 have e_:=cl h1
 have l_:=cM e_
 refine S.bs 6 (.cons (aY fun w hw=>xf w page 0 7) .nil) (!(aS page 0 7)) (fun ac w β dq S=>?_) (fun ac w β dq S=>?_)
 ·have gp:=cw dq
  have q9:=dC gp
  refine S.go 3 .nil fun ac w β S=>S.rT (α:=Int) (m:=4) (by':=8) (d:=21) (by omega) (show 4<=4194304 by omega) fun ac w N ic e3 S up aT d16=>?_
  clear up d16
  refine S.aP 4 .nil [ab 4 ic.1] fun ac w β S=>?_
  exact cT S D8 (by rw [show 4=(List.replicate 4 (GT.dE:Int)).length from(by simp)];rfl) aT
 have j7:=cl dq
 have q_:=cM j7
 refine S.a8 32 (.cons (cP (a4.I (d:=h) (S.arg ax)) m Tryz.underlying34) (.cons (dR (a4.I (d:=h) (S.arg ax)) 71 m.toNat) (.cons (aY fun w hw=>YT w (el h.I m.toNat).outer (aK.I.2 m.toNat).outer (cQ (bn.outer (d:=(el h.I m.toNat)) (ag.el (a4.I (d:=h) (S.arg ax)) m.toNat (by omega))) hw) page) .nil))) ((dw (el h.I m.toNat).outer page).page != (-1)) (fun ac w β mR vz S=>?_) (fun ac w β mR vz S=>?_)
 ·refine S.go 7 .nil fun ac w β S=>S.ct (r:=gl h.mem (dw (el h.I m.toNat).outer page).page) (d:=38) (Oq w h.mem aK.mem (S.rd (a4.mem (d:=h) (S.arg ax))) (dw (el h.I m.toNat).outer page).page) fun ac w N jO hR S up bY d24=>?_
  clear up d24
  refine S.aP 4 .nil [ab (gl h.mem (dw (el h.I m.toNat).outer page).page).length jO.1] fun ac w β S=>?_
  exact cT S D8 rfl bY
 refine S.go 8 .nil fun ac w β S=>S.ct (r:=gl (el h.I m.toNat).out page) (d:=42) (Oq w (el h.I m.toNat).out (aK.I.2 m.toNat).out (S.rd (bn.out (d:=(el h.I m.toNat)) (ag.el (a4.I (d:=h) (S.arg ax)) m.toNat (by omega)))) page) fun ac w N dW eu S up cN d28=>?_
 clear up d28
 refine S.aP 4 .nil [ab (gl (el h.I m.toNat).out page).length dW.1] fun ac w β S=>?_
 exact cT S D8 rfl cN
theorem SF {p:Prop} (h:p:=by clear S;(first|(unfold aG;rw [if_neg (KF (by assumption))];done)|(unfold aG;rw [if_pos (ry (by assumption)),uw (ry (by assumption)),cD,show i=8 by omega]))):p:=h
theorem Ou (w0:World) (h:ad) (aK:cK) (ax:br w0 h aK) (m:Int):Calls Tryz.prog 49 [GT.val h aK,R m].toArray w0 (dZ aa w0 (aG h m:a9)):=by
 refine Calls.run aa Tryz.func49 ?_
 intro ac β S
 have gO:h.mem.length<=4194304:=ag.le (a4.mem (d:=h) ax)
 have gP:h.I.length<=4194304:=ag.le (a4.I (d:=h) ax)
 have gM:h.buf.length<=4194304:=ag.le (a4.buf (d:=h) ax)
 have gN:h.ar.length<=4194304:=ag.le (a4.ar (d:=h) ax)
 refine S.go 10 .nil fun ac w β S=>S.fk (r:=(aC h m).1) (r':=(aC h m).2) (d:=12) (YK w h aK (S.rd (S.arg ax)) m) fun ac w N ae eP cR fQ S up cG a1 d7 d8 d9=>?_
 clear up d7
 clear d8
 have i25:aq (aC h m).1.av:=bn.av (d:=(aC h m).1) cG.al
 obtain⟨jS,fP,mZ,kT,hR,qI,ft,cJ,ef,en,bY,eo,_,_,_,_,_,_,_,_,_,_,_,_,_,_,_,_,_,_,d43,_,_⟩:=UW cG
 refine S.bs 15 .nil (!(aC h m).2) (fun ac w β nn S=>?_) (fun ac w β nn S=>?_)
 ·have pc:=cw nn
  refine S.aP 8 (.cons (dY (s:=Instr.build 90 [].toArray) (v:= .agg [ab ([]:List (List Int)).length (GT.bL (α:=List (List Int))).1,ab ([]:List az).length (GT.bL (α:=List az)).1,ab ([]:List Int).length (GT.bL (α:=List Int)).1,R 0].toArray) (fun w=>by kernel_rfl)) .nil) [GT.val (⟨([]:List (List Int)),([]:List az),([]:List Int),0⟩:a9) (⟨(GT.bL (α:=List (List Int))),(GT.bL (α:=List az)),(GT.bL (α:=List Int))⟩:ec)] fun ac w β S=>?_
  have px:=S.hp (α:=List Int)
  have gh:=S.hp (α:=az)
  have il:=S.hp (α:=Int)
  have hr:=kN (x:=(⟨([]:List (List Int)),([]:List az),([]:List Int),0⟩:a9)) (p:=(⟨(GT.bL (α:=List (List Int))),(GT.bL (α:=List az)),(GT.bL (α:=List Int))⟩:ec)) px gh il (fun b _ h=>False.elim h) (fun b _ h=>False.elim h) (fun b _ h=>False.elim h) (show aq 0 from⟨by decide,by decide⟩)
  exact cT S SF rfl hr
 have ri:=cl nn
 refine S.go 23 (.cons (dY (s:=Instr.build 90 [(1,ab (aC h m).1.U.length ae.U.1),(2,ab (aC h m).1.outs.length ae.outs.1),(3,R (aC h m).1.av)].toArray) (v:= .agg [ab ([]:List (List Int)).length (GT.bL (α:=List (List Int))).1,ab (aC h m).1.U.length ae.U.1,ab (aC h m).1.outs.length ae.outs.1,R (aC h m).1.av].toArray) (fun w=>by kernel_rfl)) .nil) fun ac w β S=>?_
 have kd:=S.hp (α:=List Int)
 refine ek (fun bG ac w=>∃(i:Nat) (acc:List (List Int)) (oQ:_) (lX:_) (u:_) (N:_) (β:_),bG=8-i/\(i<=8)/\(acc=(List.range i).map (fun(j:Nat)=>l8 h m (j:Int)))/\aj Tryz.prog Tryz.f49.ntmps w0 aa u N β ⟨[(1,.v (R m)),(2,.p 0 0),(4,.p 1 0),(7,.p 3 0),(8,.v (R (i:Int)))],[GT.cells h aK,c2 a9,[ab (aC h m).1.outer.length ae.outer.1,ab (aC h m).1.out.length ae.out.1,ab (aC h m).1.bj.length ae.bj.1,ab (aC h m).1.U.length ae.U.1,ab (aC h m).1.outs.length ae.outs.1,R (aC h m).1.av,R (aC h m).1.bQ,ab (aC h m).1.tables.length ae.tables.1,R (aC h m).1.owned],[ab acc.length oQ.1,ab (aC h m).1.U.length ae.U.1,ab (aC h m).1.outs.length ae.outs.1,R (aC h m).1.av]]⟩ ac w/\ai w0 aa u N lX acc oQ/\ai w0 aa u N jS (aC h m).1.outer ae.outer/\ai w0 aa u N fP (aC h m).1.out ae.out/\ai w0 aa u N mZ (aC h m).1.bj ae.bj/\ai w0 aa u N kT (aC h m).1.U ae.U/\ai w0 aa u N hR (aC h m).1.outs ae.outs/\ai w0 aa u N qI (aC h m).1.tables ae.tables/\J lX jS/\J lX fP/\J lX mZ/\J lX kT/\J lX hR/\J lX qI) _ ⟨0,([]:List (List Int)),(GT.bL (α:=List (List Int))),aa,_,_,_,rfl,cL,(by rfl),S.z,kd,ft,cJ,ef,en,bY,eo,(J.symm (fun b _ h=>False.elim h)),(J.symm (fun b _ h=>False.elim h)),(J.symm (fun b _ h=>False.elim h)),(J.symm (fun b _ h=>False.elim h)),(J.symm (fun b _ h=>False.elim h)),(J.symm (fun b _ h=>False.elim h))⟩ ?_
 clear S ft cJ ef en bY eo kd a1
 rintro f63 bG aet ac w ⟨i,acc,oQ,lX,u,N,β,rfl,hi,cD,S,jA,ft,cJ,ef,en,bY,eo,d57,d58,d59,d60,d61,d62⟩
 refine S.rs fun S=>?_
 have lH:acc.length=i:=by rw [cD];simp
 refine S.a8 7 .nil (decide ((i:Int)<8)) (fun ac w β rj z1 S=>?_) (fun ac w β rj z1 S=>?_)
 ·refine S.go 5 .nil fun ac w β S=>?_
  refine dj ?_
  refine S.df (f:=10) 7 (by kernel_rfl) (by kernel_rfl) fun w S=>?_
  refine S.aI 0 [1,0] [] [(29,.p 3 0)] .nil fun ac S=>?_
  refine S.aI 1 [1] [] [(30,.v (ab acc.length oQ.1))] .nil fun ac S=>?_
  refine S.aI 2 [5,2] [] [(31,.v (GT.val h aK))] .nil fun ac S=>?_
  refine S.aI 3 [5,3] [] [(32,.v (R m))] .nil fun ac S=>?_
  refine S.aI 4 [5,4] [] [(33,.v (R (i:Int)))] .nil fun ac S=>?_
  refine ao.one (i:=5) (by kernel_rfl) ?_
  refine id (S.cH 34 (YM w h aK (S.rd (S.arg ax)) m (i:Int)) fun ac w N uQ B5 S up oI d70=>?_)
  refine ao.next S up (by kernel_rfl) ?_
  have d71:=J.w d70 jA.sub
  have d72:=J.w d70 ft.sub
  have d73:=J.w d70 cJ.sub
  have d74:=J.w d70 ef.sub
  have d75:=J.w d70 en.sub
  have d76:=J.w d70 bY.sub
  have d77:=J.w d70 eo.sub
  replace jA:=jA.up up
  replace ft:=ft.up up
  replace cJ:=cJ.up up
  replace ef:=ef.up up
  replace en:=en.up up
  replace bY:=bY.up up
  replace eo:=eo.up up
  clear up d70
  refine ao.one (i:=6) (by kernel_rfl) ?_
  refine id (S.pT (α:=List Int) (x:=(l8 h m (i:Int))) (p:=uQ) oI.own oI.sub oI.cU (d:=35) (by kernel_rfl) fun ac w N arZ am2 S up Ew d81=>?_)
  refine ao.next S up (by kernel_rfl) ?_
  have d82:=d81 _ d71 jA.sub
  have d83:=d81 _ d72 ft.sub
  have d84:=d81 _ d73 cJ.sub
  have d85:=d81 _ d74 ef.sub
  have d86:=d81 _ d75 en.sub
  have d87:=d81 _ d76 bY.sub
  have d88:=d81 _ d77 eo.sub
  replace jA:=jA.up up
  replace ft:=ft.up up
  replace cJ:=cJ.up up
  replace ef:=ef.up up
  replace en:=en.up up
  replace bY:=bY.up up
  replace eo:=eo.up up
  clear up d81
  refine ao.one (i:=7) (by kernel_rfl) ?_
  refine id (S.vf (α:=List Int) jA Ew d82 (by':=24) (d:=36) (lx:=acc.length) (ly:=1) rfl rfl (by kernel_rfl) (show _<=4194304 by simp only [List.length_append,List.length_cons,List.length_nil];omega) fun ac w N Uo Wn S up aiB d92=>?_)
  refine ao.last (by kernel_rfl) ?_
  have d93:=d92 _ (J.symm d57) d83 ft.sub
  have d94:=d92 _ (J.symm d58) d84 cJ.sub
  have d95:=d92 _ (J.symm d59) d85 ef.sub
  have d96:=d92 _ (J.symm d60) d86 en.sub
  have d97:=d92 _ (J.symm d61) d87 bY.sub
  have d98:=d92 _ (J.symm d62) d88 eo.sub
  replace ft:=ft.bp (J.symm d57) up
  replace cJ:=cJ.bp (J.symm d58) up
  replace ef:=ef.bp (J.symm d59) up
  replace en:=en.bp (J.symm d60) up
  replace bY:=bY.bp (J.symm d61) up
  replace eo:=eo.bp (J.symm d62) up
  clear up d92
  refine S.b8 8 [] [(37,.p 3 0)] 4 [] .nil fun ac w β S=>?_
  refine S.b8 9 [] [] 4 [(3,[ab (acc++[(l8 h m (i:Int))]).length Uo.1,ab (aC h m).1.U.length ae.U.1,ab (aC h m).1.outs.length ae.outs.1,R (aC h m).1.av])] .nil fun ac w β S=>?_
  refine ao.done (by kernel_rfl) ?_ _
  refine S.ex fun S=>?_
  refine S.ge 7 (.cons (cO (i:Int) 1) .nil) f63 fun ac w β S=>aet.of (8-(i+1)) _ _ (by omega) ⟨i+1,(acc++[(l8 h m (i:Int))]),Uo,Wn,_,_,_,rfl,?_,?_,S.z,aiB,ft,cJ,ef,en,bY,eo,(J.symm d93),(J.symm d94),(J.symm d95),(J.symm d96),(J.symm d97),(J.symm d98)⟩
  ·exact dn
  ·clear S;(rw [LW,←cD])
 refine S.aP 13 .nil [GT.val (⟨acc,(aC h m).1.U,(aC h m).1.outs,(aC h m).1.av⟩:a9) (⟨oQ,ae.U,ae.outs⟩:ec)] fun ac w β S=>?_
 have ht:=kN (x:=(⟨acc,(aC h m).1.U,(aC h m).1.outs,(aC h m).1.av⟩:a9)) (p:=(⟨oQ,ae.U,ae.outs⟩:ec)) jA en bY d60 d61 d43 i25
 exact cT S SF rfl ht
theorem YF (w0:World) (h:ad) (aK:cK) (ax:br w0 h aK):Calls Tryz.prog 21 [GT.val h aK].toArray w0 (dZ aa w0 (js h:List a9)):=by
 refine Calls.run aa Tryz.func21 ?_
 intro ac β S
 have gO:h.mem.length<=4194304:=ag.le (a4.mem (d:=h) ax)
 have gP:h.I.length<=4194304:=ag.le (a4.I (d:=h) ax)
 have gM:h.buf.length<=4194304:=ag.le (a4.buf (d:=h) ax)
 have gN:h.ar.length<=4194304:=ag.le (a4.ar (d:=h) ax)
 refine S.go 8 .nil fun ac w β S=>S.gx (α:=a9) (d:=5) fun ac w N ae aX S up au d4=>?_
 clear up d4
 refine S.go 10 .nil fun ac w β S=>?_
 refine ek (fun bG ac w=>∃(i:Nat) (acc:List a9) (bZ:_) (b7:_) (u:_) (N:_) (β:_),bG=h.I.length-i/\(i<=h.I.length)/\(acc=(List.range i).map (fun(j:Nat)=>aG h (j:Int)))/\aj Tryz.prog Tryz.f21.ntmps w0 aa u N β ⟨[(1,.p 0 0),(3,.v (ab acc.length bZ.1)),(4,.v (R (i:Int)))],[GT.cells h aK]⟩ ac w/\ai w0 aa u N b7 acc bZ) _ ⟨0,([]:List a9),ae,aX,_,_,_,rfl,cL,(by rfl),S.z,au⟩ ?_
 clear S au
 rintro f8 bG g0 ac w ⟨i,acc,bZ,b7,u,N,β,rfl,hi,cD,S,ak⟩
 refine S.rs fun S=>?_
 have lH:acc.length=i:=by rw [cD];simp
 refine S.a8 10 .nil (decide ((i:Int)<(h.I.length:Int))) (fun ac w β dq fM S=>?_) (fun ac w β dq fM S=>?_)
 ·refine S.go 9 .nil fun ac w β S=>S.ct (r:=aG h (i:Int)) (d:=16) (Ou w h aK (S.rd (S.arg ax)) (i:Int)) fun ac w N gF fP S up cJ d15=>?_
  have d16:=J.w d15 ak.sub
  replace ak:=ak.up up
  clear up d15
  refine S.hB (α:=a9) (x:=(aG h (i:Int))) (p:=gF) cJ.own cJ.sub cJ.cU (d:=17) fun ac w N mn lV S up eg d20=>?_
  have d21:=d20 _ d16 ak.sub
  replace ak:=ak.up up
  clear up d20
  refine S.qG (α:=a9) ak eg d21 (by':=80) (d:=18) (lx:=acc.length) (ly:=1) rfl rfl (show _<=4194304 by simp only [List.length_append,List.length_cons,List.length_nil];omega) fun ac w N nC oa S up c4 d25=>?_
  clear up d25
  refine S.ge 9 (.cons (cO (i:Int) 1) .nil) f8 fun ac w β S=>g0.of (h.I.length-(i+1)) _ _ (by omega) ⟨i+1,(acc++[(aG h (i:Int))]),nC,oa,_,_,_,rfl,?_,?_,S.z,c4⟩
  ·exact dn
  ·clear S;(rw [LW,←cD])
 refine S.aP 13 .nil [ab acc.length bZ.1] fun ac w β S=>?_
 exact cT S (show js h=acc by clear S;(unfold js;rw [cD,show h.I.length=i by omega])) rfl ak
end Go.Proofs.YtmeoackmjdoecaaGreat
namespace Go.Proofs.YtmeoackmjdoecaaGreat
open Go
set_option linter.unusedVariables false
set_option linter.unusedSimpArgs false
set_option maxRecDepth 100000
set_option maxHeartbeats 2000000
theorem J8 {p:Prop} (h:p:=by clear S;first|(simp;intro e;subst e;simp_all;done)|(simp;rw [fj (by omega),fj (by omega)] at he;exact he)|(simp;exact qD (by simp_all))|(symm;exact decide_eq_false (qD (by assumption)))|(symm;exact decide_eq_true (by rw [fj (by omega),fj (by omega)] at he;exact he))|(symm;refine decide_eq_false ?_;intro e;rw [e] at*;omega)):p:=h
theorem Gj (w0:World) (a:List Int) (pa:af Int) (bR:br w0 a pa) (b:List Int) (aQ:af Int) (hb:br w0 b aQ):Calls Tryz.prog 111 [ab a.length pa.1,ab b.length aQ.1].toArray w0 (fun e w'=>e= .returned (B (decide (a=b)))/\bX aa w0 w'):=by
 refine Calls.run aa Tryz.func111 ?_
 intro ac β S
 have Av:a.length<=4194304:=ag.le bR
 have pg:b.length<=4194304:=ag.le hb
 refine S.a8 15 .nil ((a.length:Int) != (b.length:Int)) (fun ac w β h1 bM S=>?_) (fun ac w β h1 bM S=>?_)
 ·exact S.bb 7 .nil [B false] (b4 J8)
 refine S.go 10 .nil fun ac w β S=>?_
 refine ek (fun bG ac w=>∃(k:Nat) (u:_) (N:_) (β:_),bG=a.length-k/\(k<=a.length)/\(a.length=b.length)/\(a.take k=b.take k)/\aj Tryz.prog Tryz.f111.ntmps w0 aa u N β ⟨[(0,.v (ab a.length pa.1)),(1,.v (ab b.length aQ.1)),(5,.v (R (k:Int)))],[]⟩ ac w) _ ⟨0,_,_,_,rfl,cL,cL,(by simp),S.z⟩ ?_
 clear S
 rintro f3 bG nr ac w ⟨k,u,N,β,rfl,hk,lh,he,S⟩
 refine S.rs fun S=>?_
 refine S.a8 9 .nil (decide ((k:Int)<(a.length:Int))) (fun ac w β cf gn S=>?_) (fun ac w β cf gn S=>?_)
 ·refine S.a8 8 (.cons (cA (S.arg bR) k Tryz.underlying28) (.cons (cn (S.arg bR) 3 k) (.cons (cA (S.arg hb) k Tryz.underlying28) (.cons (cn (S.arg hb) 3 k) .nil)))) ((el a k) != (el b k)) (fun ac w β eH nP S=>?_) (fun ac w β eH nP S=>?_)
  ·exact S.bb 7 .nil [B false] (b4 J8)
  refine S.ge 9 (.cons (cO (k:Int) 1) .nil) f3 fun ac w β S=>nr.of (a.length-(k+1)) _ _ (by omega) ⟨k+1,_,_,_,rfl,?_,?_,?_,S.z⟩
  ·exact dn
  ·exact dn
  ·clear S;exact wK (by omega) (by omega) he (by simp_all)
 exact S.bb 12 .nil [B true] (b4 J8)
theorem J4 {p:Prop} (h:p:=by clear S;first|(simp;intro e;subst e;simp_all;done)|(simp;rw [fj (by omega),fj (by omega)] at he;exact he)|(simp;exact qD (by simp_all))|(symm;exact decide_eq_false (qD (by assumption)))|(symm;exact decide_eq_true (by rw [fj (by omega),fj (by omega)] at he;exact he))|(symm;refine decide_eq_false ?_;intro e;rw [e] at*;omega)):p:=h
theorem YP (w0:World) (a:List (List Int)) (pa:af (List Int)) (bR:br w0 a pa) (b:List (List Int)) (aQ:af (List Int)) (hb:br w0 b aQ):Calls Tryz.prog 109 [ab a.length pa.1,ab b.length aQ.1].toArray w0 (fun e w'=>e= .returned (B (decide (a=b)))/\bX aa w0 w'):=by
 refine Calls.run aa Tryz.func109 ?_
 intro ac β S
 have Av:a.length<=4194304:=ag.le bR
 have pg:b.length<=4194304:=ag.le hb
 refine S.a8 15 .nil ((a.length:Int) != (b.length:Int)) (fun ac w β h1 bM S=>?_) (fun ac w β h1 bM S=>?_)
 ·exact S.bb 7 .nil [B false] (b4 J4)
 refine S.go 10 .nil fun ac w β S=>?_
 refine ek (fun bG ac w=>∃(k:Nat) (u:_) (N:_) (β:_),bG=a.length-k/\(k<=a.length)/\(a.length=b.length)/\(a.take k=b.take k)/\aj Tryz.prog Tryz.f109.ntmps w0 aa u N β ⟨[(0,.v (ab a.length pa.1)),(1,.v (ab b.length aQ.1)),(5,.v (R (k:Int)))],[]⟩ ac w) _ ⟨0,_,_,_,rfl,cL,cL,(by simp),S.z⟩ ?_
 clear S
 rintro f3 bG nr ac w ⟨k,u,N,β,rfl,hk,lh,he,S⟩
 refine S.rs fun S=>?_
 refine S.a8 9 .nil (decide ((k:Int)<(a.length:Int))) (fun ac w β cf gn S=>?_) (fun ac w β cf gn S=>?_)
 ·refine S.bs 8 (.cons (cA (S.arg bR) k Tryz.underlying33) (.cons (cn (S.arg bR) 28 k) (.cons (cA (S.arg hb) k Tryz.underlying33) (.cons (cn (S.arg hb) 28 k) (.cons (aY fun w hw=>Gj w (el a k) (pa.2 k) (cQ (ag.el (S.arg bR) k (by omega)) hw) (el b k) (aQ.2 k) (cQ (ag.el (S.arg hb) k (by omega)) hw)) .nil))))) (!(decide ((el a k)=(el b k)))) (fun ac w β eH S=>?_) (fun ac w β eH S=>?_)
  ·have e_:=cw eH
   have l_:=of_decide_eq_false e_
   exact S.bb 7 .nil [B false] (b4 J4)
  have dq:=cl eH
  have fM:=of_decide_eq_true dq
  refine S.ge 9 (.cons (cO (k:Int) 1) .nil) f3 fun ac w β S=>nr.of (a.length-(k+1)) _ _ (by omega) ⟨k+1,_,_,_,rfl,?_,?_,?_,S.z⟩
  ·exact dn
  ·exact dn
  ·clear S;exact wK (by omega) (by omega) he (by simp_all)
 exact S.bb 12 .nil [B true] (b4 J4)
theorem J5 {p:Prop} (h:p:=by clear S;first|(simp;intro e;subst e;simp_all;done)|(simp;rw [fj (by omega),fj (by omega)] at he;exact he)|(simp;exact qD (by simp_all))|(symm;exact decide_eq_false (qD (by assumption)))|(symm;exact decide_eq_true (by rw [fj (by omega),fj (by omega)] at he;exact he))|(symm;refine decide_eq_false ?_;intro e;rw [e] at*;omega)):p:=h
theorem YQ (w0:World) (a:List cE) (pa:af cE) (bR:br w0 a pa) (b:List cE) (aQ:af cE) (hb:br w0 b aQ):Calls Tryz.prog 194 [ab a.length pa.1,ab b.length aQ.1].toArray w0 (fun e w'=>e= .returned (B (decide (a=b)))/\bX aa w0 w'):=by
 refine Calls.run aa Tryz.func194 ?_
 intro ac β S
 have Av:a.length<=4194304:=ag.le bR
 have pg:b.length<=4194304:=ag.le hb
 refine S.a8 15 .nil ((a.length:Int) != (b.length:Int)) (fun ac w β h1 bM S=>?_) (fun ac w β h1 bM S=>?_)
 ·exact S.bb 7 .nil [B false] (b4 J5)
 refine S.go 10 .nil fun ac w β S=>?_
 refine ek (fun bG ac w=>∃(k:Nat) (u:_) (N:_) (β:_),bG=a.length-k/\(k<=a.length)/\(a.length=b.length)/\(a.take k=b.take k)/\aj Tryz.prog Tryz.f194.ntmps w0 aa u N β ⟨[(0,.v (ab a.length pa.1)),(1,.v (ab b.length aQ.1)),(5,.v (R (k:Int)))],[]⟩ ac w) _ ⟨0,_,_,_,rfl,cL,cL,(by simp),S.z⟩ ?_
 clear S
 rintro f3 bG nr ac w ⟨k,u,N,β,rfl,hk,lh,he,S⟩
 refine S.rs fun S=>?_
 refine S.a8 9 .nil (decide ((k:Int)<(a.length:Int))) (fun ac w β cf gn S=>?_) (fun ac w β cf gn S=>?_)
 ·refine S.bs 8 (.cons (cA (S.arg bR) k Tryz.underlying98) (.cons (dR (S.arg bR) 158 k) (.cons (cA (S.arg hb) k Tryz.underlying98) (.cons (dR (S.arg hb) 158 k) (.cons (Vk (t:=158) (el a k) (el b k) (by kernel_rfl)) .nil))))) (!decide ((el a k)=(el b k))) (fun ac w β eH S=>?_) (fun ac w β eH S=>?_)
  ·exact S.bb 7 .nil [B false] (b4 J5)
  refine S.ge 9 (.cons (cO (k:Int) 1) .nil) f3 fun ac w β S=>nr.of (a.length-(k+1)) _ _ (by omega) ⟨k+1,_,_,_,rfl,?_,?_,?_,S.z⟩
  ·exact dn
  ·exact dn
  ·clear S;exact wK (by omega) (by omega) he (by simp_all)
 exact S.bb 12 .nil [B true] (b4 J5)
theorem J6 {p:Prop} (h:p:=by clear S;first|(simp;intro e;subst e;simp_all;done)|(simp;rw [fj (by omega),fj (by omega)] at he;exact he)|(simp;exact qD (by simp_all))|(symm;exact decide_eq_false (qD (by assumption)))|(symm;exact decide_eq_true (by rw [fj (by omega),fj (by omega)] at he;exact he))|(symm;refine decide_eq_false ?_;intro e;rw [e] at*;omega)):p:=h
theorem Ot (w0:World) (a:List aA) (pa:af aA) (bR:br w0 a pa) (b:List aA) (aQ:af aA) (hb:br w0 b aQ):Calls Tryz.prog 195 [ab a.length pa.1,ab b.length aQ.1].toArray w0 (fun e w'=>e= .returned (B (decide (a=b)))/\bX aa w0 w'):=by
 refine Calls.run aa Tryz.func195 ?_
 intro ac β S
 have Av:a.length<=4194304:=ag.le bR
 have pg:b.length<=4194304:=ag.le hb
 refine S.a8 15 .nil ((a.length:Int) != (b.length:Int)) (fun ac w β h1 bM S=>?_) (fun ac w β h1 bM S=>?_)
 ·exact S.bb 7 .nil [B false] (b4 J6)
 refine S.go 10 .nil fun ac w β S=>?_
 refine ek (fun bG ac w=>∃(k:Nat) (u:_) (N:_) (β:_),bG=a.length-k/\(k<=a.length)/\(a.length=b.length)/\(a.take k=b.take k)/\aj Tryz.prog Tryz.f195.ntmps w0 aa u N β ⟨[(0,.v (ab a.length pa.1)),(1,.v (ab b.length aQ.1)),(5,.v (R (k:Int)))],[]⟩ ac w) _ ⟨0,_,_,_,rfl,cL,cL,(by simp),S.z⟩ ?_
 clear S
 rintro f3 bG nr ac w ⟨k,u,N,β,rfl,hk,lh,he,S⟩
 refine S.rs fun S=>?_
 refine S.a8 9 .nil (decide ((k:Int)<(a.length:Int))) (fun ac w β cf gn S=>?_) (fun ac w β cf gn S=>?_)
 ·refine S.bs 8 (.cons (cA (S.arg bR) k Tryz.underlying66) (.cons (dR (S.arg bR) 77 k) (.cons (cA (S.arg hb) k Tryz.underlying66) (.cons (dR (S.arg hb) 77 k) (.cons (Vl (t:=77) (el a k) (el b k) (by kernel_rfl)) .nil))))) (!decide ((el a k)=(el b k))) (fun ac w β eH S=>?_) (fun ac w β eH S=>?_)
  ·exact S.bb 7 .nil [B false] (b4 J6)
  refine S.ge 9 (.cons (cO (k:Int) 1) .nil) f3 fun ac w β S=>nr.of (a.length-(k+1)) _ _ (by omega) ⟨k+1,_,_,_,rfl,?_,?_,?_,S.z⟩
  ·exact dn
  ·exact dn
  ·clear S;exact wK (by omega) (by omega) he (by simp_all)
 exact S.bb 12 .nil [B true] (b4 J6)
theorem rv {p:Prop} (h:p:=by clear S;(first|(symm;refine decide_eq_false ?_;intro e;subst e;simp_all;done)|(symm;refine decide_eq_true ?_;rw [az.ext_iff];simp_all;done)|(rw [Bool.eq_iff_iff];simp only [decide_eq_true_eq,az.ext_iff,beq_iff_eq,Bool.and_eq_true];simp_all;done))):p:=h
theorem YO (w0:World) (a:az) (pa:dB) (bR:br w0 a pa) (b:az) (aQ:dB) (hb:br w0 b aQ):Calls Tryz.prog 172 [GT.val a pa,GT.val b aQ].toArray w0 (fun e w'=>e= .returned (B (decide (a=b)))/\bX aa w0 w'):=by
 refine Calls.run aa Tryz.func172 ?_
 intro ac β S
 have apL:a.prog.length<=4194304:=ag.le (a5.prog (d:=a) bR)
 have apN:a.written.length<=4194304:=ag.le (a5.written (d:=a) bR)
 have apI:a.live.length<=4194304:=ag.le (a5.live (d:=a) bR)
 have apM:a.seen.length<=4194304:=ag.le (a5.seen (d:=a) bR)
 have apT:b.prog.length<=4194304:=ag.le (a5.prog (d:=b) hb)
 have apV:b.written.length<=4194304:=ag.le (a5.written (d:=b) hb)
 have apR:b.live.length<=4194304:=ag.le (a5.live (d:=b) hb)
 have apU:b.seen.length<=4194304:=ag.le (a5.seen (d:=b) hb)
 refine S.bs 15 (.cons (aY fun w hw=>YQ w a.prog pa.prog (cQ (a5.prog (d:=a) (S.arg bR)) hw) b.prog aQ.prog (cQ (a5.prog (d:=b) (S.arg hb)) hw)) .nil) (decide (a.prog=b.prog)) (fun ac w β h1 S=>?_) (fun ac w β h1 S=>?_)
 ·have bM:=of_decide_eq_true h1
  refine S.a8 7 .nil (a.acc==b.acc) (fun ac w β aE ej S=>?_) (fun ac w β aE ej S=>?_)
  ·refine S.a8 7 .nil (a.aN==b.aN) (fun ac w β cf gn S=>?_) (fun ac w β cf gn S=>?_)
   ·refine S.bs 7 (.cons (aY fun w hw=>Ot w a.written pa.written (cQ (a5.written (d:=a) (S.arg bR)) hw) b.written aQ.written (cQ (a5.written (d:=b) (S.arg hb)) hw)) .nil) (decide (a.written=b.written)) (fun ac w β eH S=>?_) (fun ac w β eH S=>?_)
    ·have nP:=of_decide_eq_true eH
     refine S.bs 7 (.cons (aY fun w hw=>Ot w a.live pa.live (cQ (a5.live (d:=a) (S.arg bR)) hw) b.live aQ.live (cQ (a5.live (d:=b) (S.arg hb)) hw)) .nil) (decide (a.live=b.live)) (fun ac w β gd S=>?_) (fun ac w β gd S=>?_)
     ·have p9:=of_decide_eq_true gd
      refine S.bs 7 (.cons (Vj (t:=81) a.bH b.bH (by kernel_rfl)) .nil) (decide (a.bH=b.bH)) (fun ac w β gp S=>?_) (fun ac w β gp S=>?_)
      ·refine S.a8 7 .nil (a.av==b.av) (fun ac w β eU l9 S=>?_) (fun ac w β eU l9 S=>?_)
       ·refine S.bs 7 (.cons (MY (t:=100) a.exit b.exit (by kernel_rfl)) .nil) (decide (a.exit=b.exit)) (fun ac w β ju S=>?_) (fun ac w β ju S=>?_)
        ·refine S.a8 7 .nil (a.halted==b.halted) (fun ac w β rb tO S=>?_) (fun ac w β rb tO S=>?_)
         ·exact S.bb 10 (.cons (aY fun w hw=>Gj w a.seen pa.seen (cQ (a5.seen (d:=a) (S.arg bR)) hw) b.seen aQ.seen (cQ (a5.seen (d:=b) (S.arg hb)) hw)) .nil) [B (decide (a.seen=b.seen))] (b4 rv)
         exact S.bb 10 .nil [B false] (b4 rv)
        exact S.bb 17 .nil [B false] (b4 rv)
       exact S.bb 24 .nil [B false] (b4 rv)
      exact S.bb 31 .nil [B false] (b4 rv)
     have o8:=of_decide_eq_false gd
     exact S.bb 38 .nil [B false] (b4 rv)
    have q_:=of_decide_eq_false eH
    exact S.bb 45 .nil [B false] (b4 rv)
   exact S.bb 52 .nil [B false] (b4 rv)
  exact S.bb 59 .nil [B false] (b4 rv)
 have tP:=of_decide_eq_false h1
 exact S.bb 66 .nil [B false] (b4 rv)
theorem J9 {p:Prop} (h:p:=by clear S;first|(simp;intro e;subst e;simp_all;done)|(simp;rw [fj (by omega),fj (by omega)] at he;exact he)|(simp;exact qD (by simp_all))|(symm;exact decide_eq_false (qD (by assumption)))|(symm;exact decide_eq_true (by rw [fj (by omega),fj (by omega)] at he;exact he))|(symm;refine decide_eq_false ?_;intro e;rw [e] at*;omega)):p:=h
theorem Y3 (w0:World) (a:List az) (pa:af az) (bR:br w0 a pa) (b:List az) (aQ:af az) (hb:br w0 b aQ):Calls Tryz.prog 110 [ab a.length pa.1,ab b.length aQ.1].toArray w0 (fun e w'=>e= .returned (B (decide (a=b)))/\bX aa w0 w'):=by
 refine Calls.run aa Tryz.func110 ?_
 intro ac β S
 have Av:a.length<=4194304:=ag.le bR
 have pg:b.length<=4194304:=ag.le hb
 refine S.a8 15 .nil ((a.length:Int) != (b.length:Int)) (fun ac w β h1 bM S=>?_) (fun ac w β h1 bM S=>?_)
 ·exact S.bb 7 .nil [B false] (b4 J9)
 refine S.go 10 .nil fun ac w β S=>?_
 refine ek (fun bG ac w=>∃(k:Nat) (u:_) (N:_) (β:_),bG=a.length-k/\(k<=a.length)/\(a.length=b.length)/\(a.take k=b.take k)/\aj Tryz.prog Tryz.f110.ntmps w0 aa u N β ⟨[(0,.v (ab a.length pa.1)),(1,.v (ab b.length aQ.1)),(5,.v (R (k:Int)))],[]⟩ ac w) _ ⟨0,_,_,_,rfl,cL,cL,(by simp),S.z⟩ ?_
 clear S
 rintro f3 bG nr ac w ⟨k,u,N,β,rfl,hk,lh,he,S⟩
 refine S.rs fun S=>?_
 refine S.a8 9 .nil (decide ((k:Int)<(a.length:Int))) (fun ac w β cf gn S=>?_) (fun ac w β cf gn S=>?_)
 ·refine S.bs 8 (.cons (cA (S.arg bR) k Tryz.underlying68) (.cons (dR (S.arg bR) 102 k) (.cons (cA (S.arg hb) k Tryz.underlying68) (.cons (dR (S.arg hb) 102 k) (.cons (aY fun w hw=>YO w (el a k) (pa.2 k) (cQ (ag.el (S.arg bR) k (by omega)) hw) (el b k) (aQ.2 k) (cQ (ag.el (S.arg hb) k (by omega)) hw)) .nil))))) (!(decide ((el a k)=(el b k)))) (fun ac w β eH S=>?_) (fun ac w β eH S=>?_)
  ·have e_:=cw eH
   have l_:=of_decide_eq_false e_
   exact S.bb 7 .nil [B false] (b4 J9)
  have dq:=cl eH
  have fM:=of_decide_eq_true dq
  refine S.ge 9 (.cons (cO (k:Int) 1) .nil) f3 fun ac w β S=>nr.of (a.length-(k+1)) _ _ (by omega) ⟨k+1,_,_,_,rfl,?_,?_,?_,S.z⟩
  ·exact dn
  ·exact dn
  ·clear S;exact wK (by omega) (by omega) he (by simp_all)
 exact S.bb 12 .nil [B true] (b4 J9)
theorem D9 {p:Prop} (h:p:=by clear S;(first|(symm;refine decide_eq_false ?_;intro e;subst e;simp_all;done)|(symm;refine decide_eq_true ?_;rw [a9.ext_iff];simp_all;done)|(rw [Bool.eq_iff_iff];simp only [decide_eq_true_eq,a9.ext_iff,beq_iff_eq,Bool.and_eq_true];simp_all;done))):p:=h
theorem YN (w0:World) (a:a9) (pa:ec) (bR:br w0 a pa) (b:a9) (aQ:ec) (hb:br w0 b aQ):Calls Tryz.prog 48 [GT.val a pa,GT.val b aQ].toArray w0 (fun e w'=>e= .returned (B (decide (a=b)))/\bX aa w0 w'):=by
 refine Calls.run aa Tryz.func48 ?_
 intro ac β S
 have aeF:a.mem.length<=4194304:=ag.le (b_.mem (d:=a) bR)
 have apG:a.U.length<=4194304:=ag.le (b_.U (d:=a) bR)
 have apK:a.outs.length<=4194304:=ag.le (b_.outs (d:=a) bR)
 have iD:b.mem.length<=4194304:=ag.le (b_.mem (d:=b) hb)
 have iW:b.U.length<=4194304:=ag.le (b_.U (d:=b) hb)
 have iX:b.outs.length<=4194304:=ag.le (b_.outs (d:=b) hb)
 refine S.bs 15 (.cons (aY fun w hw=>YP w a.mem pa.mem (cQ (b_.mem (d:=a) (S.arg bR)) hw) b.mem aQ.mem (cQ (b_.mem (d:=b) (S.arg hb)) hw)) .nil) (decide (a.mem=b.mem)) (fun ac w β h1 S=>?_) (fun ac w β h1 S=>?_)
 ·have bM:=of_decide_eq_true h1
  refine S.bs 7 (.cons (aY fun w hw=>Y3 w a.U pa.U (cQ (b_.U (d:=a) (S.arg bR)) hw) b.U aQ.U (cQ (b_.U (d:=b) (S.arg hb)) hw)) .nil) (decide (a.U=b.U)) (fun ac w β aE S=>?_) (fun ac w β aE S=>?_)
  ·have ej:=of_decide_eq_true aE
   refine S.bs 7 (.cons (aY fun w hw=>Gj w a.outs pa.outs (cQ (b_.outs (d:=a) (S.arg bR)) hw) b.outs aQ.outs (cQ (b_.outs (d:=b) (S.arg hb)) hw)) .nil) (decide (a.outs=b.outs)) (fun ac w β cf S=>?_) (fun ac w β cf S=>?_)
   ·have gn:=of_decide_eq_true cf
    exact S.bb 10 .nil [B (a.av==b.av)] (b4 D9)
   have tS:=of_decide_eq_false cf
   exact S.bb 10 .nil [B false] (b4 D9)
  have nP:=of_decide_eq_false aE
  exact S.bb 17 .nil [B false] (b4 D9)
 have l_:=of_decide_eq_false h1
 exact S.bb 24 .nil [B false] (b4 D9)
theorem J3 {p:Prop} (h:p:=by clear S;(first|(symm;refine decide_eq_true ?_;(have hl:=FX h);rw [fj (by omega),fj (by omega)] at he;exact he)|(symm;refine decide_eq_false ?_;intro e;(have hl:=FX h);rw [e] at hl;omega)|(symm;refine decide_eq_false ?_;intro e;(have aI:=O6 (h:=h) (i:=k) (by omega));rw [e] at aI;simp_all;done))):p:=h
theorem YJ (w0:World) (h:ad) (aK:cK) (ax:br w0 h aK) (list:List a9) (qt:af a9) (sq:br w0 list qt):Calls Tryz.prog 20 [GT.val h aK,ab list.length qt.1].toArray w0 (fun e w'=>e= .returned (B (xH h list))/\bX aa w0 w'):=by
 refine Calls.run aa Tryz.func20 ?_
 intro ac β S
 have gO:h.mem.length<=4194304:=ag.le (a4.mem (d:=h) ax)
 have gP:h.I.length<=4194304:=ag.le (a4.I (d:=h) ax)
 have gM:h.buf.length<=4194304:=ag.le (a4.buf (d:=h) ax)
 have gN:h.ar.length<=4194304:=ag.le (a4.ar (d:=h) ax)
 have aeI:list.length<=4194304:=ag.le sq
 refine S.a8 17 .nil ((list.length:Int) != (h.I.length:Int)) (fun ac w β h1 bM S=>?_) (fun ac w β h1 bM S=>?_)
 ·exact S.bb 7 .nil [B false] (b4 J3)
 refine S.go 10 .nil fun ac w β S=>?_
 refine ek (fun bG ac w=>∃(k:Nat) (u:_) (N:_) (β:_),bG=list.length-k/\(k<=list.length)/\(list.length=h.I.length)/\((js h).take k=list.take k)/\aj Tryz.prog Tryz.f20.ntmps w0 aa u N β ⟨[(1,.v (ab list.length qt.1)),(2,.p 0 0),(5,.v (R (k:Int)))],[GT.cells h aK]⟩ ac w) _ ⟨0,_,_,_,rfl,cL,cL,(by simp),S.z⟩ ?_
 clear S
 rintro f3 bG nr ac w ⟨k,u,N,β,rfl,hk,lh,he,S⟩
 refine S.rs fun S=>?_
 refine S.a8 9 .nil (decide ((k:Int)<(list.length:Int))) (fun ac w β cf gn S=>?_) (fun ac w β cf gn S=>?_)
 ·refine S.go 6 .nil fun ac w β S=>?_
  refine dj ?_
  refine S.df (f:=9) 9 (by kernel_rfl) (by kernel_rfl) fun w S=>?_
  refine S.aI 0 [] [] [(18,.v (GT.val h aK))] .nil fun ac S=>?_
  refine S.aI 1 [] [] [(19,.v (R (k:Int)))] .nil fun ac S=>?_
  refine S.aI 3 [] [] [(21,.v (ab list.length qt.1))] .nil fun ac S=>?_
  refine S.aI 4 [] [] [(22,.v (R (k:Int)))] .nil fun ac S=>?_
  refine S.aI 5 [] [] [(23,.v (aM qt.1.b (qt.1.off+k*4)))] (.cons (cA (S.arg sq) k Tryz.underlying55) .nil) fun ac S=>?_
  refine S.aI 6 [] [] [(24,.v (GT.val (el list k) (qt.2 k)))] (.cons (dR (S.arg sq) 90 k) .nil) fun ac S=>?_
  refine ao.one (i:=2) (by kernel_rfl) ?_
  refine id (S.cH 20 (Ou w h aK (S.rd (S.arg ax)) (k:Int)) fun ac w N uR eE S up a6 d10=>?_)
  refine ao.next S up (by kernel_rfl) ?_
  clear up d10
  refine S.jk 7 [] [(25,.v (B (decide ((aG h (k:Int))=(el list k)))))] 1 [] (.cons (aY fun w hw=>YN w (aG h (k:Int)) uR (cQ a6.al hw) (el list k) (qt.2 k) (cQ (ag.el (S.arg sq) k (by omega)) hw)) .nil) fun ac w β S=>?_
  refine S.aI 8 [] [] [(26,.v (B (!(decide ((aG h (k:Int))=(el list k))))))] .nil fun ac S=>?_
  refine ao.done (by kernel_rfl) ?_ _
  refine S.ex fun S=>?_
  refine S.bs 1 .nil (!(decide ((aG h (k:Int))=(el list k)))) (fun ac w β gp S=>?_) (fun ac w β gp S=>?_)
  ·have eU:=cw gp
   have l9:=of_decide_eq_false eU
   exact S.bb 7 .nil [B false] (b4 J3)
  have ju:=cl gp
  have se:=of_decide_eq_true ju
  refine S.ge 9 (.cons (cO (k:Int) 1) .nil) f3 fun ac w β S=>nr.of (list.length-(k+1)) _ _ (by omega) ⟨k+1,_,_,_,rfl,?_,?_,?_,S.z⟩
  ·exact dn
  ·exact dn
  ·clear S;(have hl:=FX h);exact wK (by omega) (by omega) he ((O6 (by omega)).trans (by assumption))
 exact S.bb 12 .nil [B true] (b4 J3)
theorem YR (w0:World) (a:ad) (pa:cK) (bR:br w0 a pa) (b:ad) (aQ:cK) (hb:br w0 b aQ):Calls Tryz.prog 10 [GT.val a pa,GT.val b aQ].toArray w0 (fun e w'=>e= .returned (B (sc a b))/\bX aa w0 w'):=by
 refine Calls.run aa Tryz.func10 ?_
 intro ac β S
 have aeF:a.mem.length<=4194304:=ag.le (a4.mem (d:=a) bR)
 have apJ:a.I.length<=4194304:=ag.le (a4.I (d:=a) bR)
 have apF:a.buf.length<=4194304:=ag.le (a4.buf (d:=a) bR)
 have apH:a.ar.length<=4194304:=ag.le (a4.ar (d:=a) bR)
 have iD:b.mem.length<=4194304:=ag.le (a4.mem (d:=b) hb)
 have apS:b.I.length<=4194304:=ag.le (a4.I (d:=b) hb)
 have apP:b.buf.length<=4194304:=ag.le (a4.buf (d:=b) hb)
 have apQ:b.ar.length<=4194304:=ag.le (a4.ar (d:=b) hb)
 refine S.go 8 .nil fun ac w β S=>?_
 refine dj ?_
 refine S.df (f:=5) 5 (by kernel_rfl) (by kernel_rfl) fun w S=>?_
 refine S.aI 0 [] [] [(5,.v (GT.val a pa))] .nil fun ac S=>?_
 refine S.aI 1 [] [] [(6,.v (GT.val b aQ))] .nil fun ac S=>?_
 refine ao.one (i:=2) (by kernel_rfl) ?_
 refine id (S.cH 7 (YF w b aQ (S.rd (S.arg hb))) fun ac w N ae aX S up au d4=>?_)
 refine ao.next S up (by kernel_rfl) ?_
 clear up d4
 refine S.jk 3 [] [(8,.v (B (xH a (js b))))] 2 [] (.cons (aY fun w hw=>YJ w a pa (cQ (S.arg bR) hw) (js b) ae (cQ au.al hw)) .nil) fun ac w β S=>?_
 refine S.aI 4 [] [] [(4,.v (B (xH a (js b))))] .nil fun ac S=>?_
 refine ao.done (by kernel_rfl) ?_ _
 refine S.ex fun S=>?_
 exact S.bb 2 .nil [B (xH a (js b))] (b4 (by clear S;first|rfl|(simp [sc, *];done)|(simp [sc, *];omega)|(simp_all [sc];done)|(simp_all [sc];omega)))
theorem YI (w0:World) (l:List bV) (pl:af bV) (hl:br w0 l pl) (t:List da) (aM:af da) (bC:br w0 t aM):Calls Tryz.prog 12 [ab l.length pl.1,ab t.length aM.1].toArray w0 (dZ aa w0 (ko l t:List da)):=by
 refine Calls.run aa Tryz.func12 ?_
 intro ac β S
 have tZ:l.length<=4194304:=ag.le hl
 have Dy:t.length<=4194304:=ag.le bC
 refine S.go 7 .nil fun ac w β S=>S.gx (α:=da) (d:=7) fun ac w N ae aX S up au d4=>?_
 clear up d4
 refine S.go 10 .nil fun ac w β S=>?_
 refine ek (fun bG ac w=>∃(k:Nat) (acc:List da) (bZ:_) (b7:_) (u:_) (N:_) (β:_),bG=l.length-k/\(k<=l.length)/\(k<=t.length)/\(acc=ko (l.take k) (t.take k))/\aj Tryz.prog Tryz.f12.ntmps w0 aa u N β ⟨[(0,.v (ab l.length pl.1)),(1,.v (ab t.length aM.1)),(5,.v (ab acc.length bZ.1)),(6,.v (R (k:Int)))],[]⟩ ac w/\ai w0 aa u N b7 acc bZ) _ ⟨0,([]:List da),ae,aX,_,_,_,rfl,cL,cL,(by rfl),S.z,au⟩ ?_
 clear S au
 rintro f8 bG g0 ac w ⟨k,acc,bZ,b7,u,N,β,rfl,hk,kI,cD,S,ak⟩
 refine S.rs fun S=>?_
 have lH:acc.length<=k:=by rw [cD];exact afq _ _ _ (by simp;omega)
 refine S.a8 8 .nil (decide ((k:Int)<(l.length:Int))) (fun ac w β dq fM S=>?_) (fun ac w β dq fM S=>?_)
 ·refine S.a8 7 .nil (decide ((k:Int)<(t.length:Int))) (fun ac w β eU l9 S=>?_) (fun ac w β eU l9 S=>?_)
  ·refine S.bs 16 (.cons (cA (S.arg hl) k Tryz.underlying25) (.cons (dG (S.arg hl) 3 k 0 (R (el l k).kind)) (.cons (aY fun w hw=>Gi w (el l k).kind) .nil))) (!(mL (el l k).kind)) (fun ac w β ju S=>?_) (fun ac w β ju S=>?_)
   ·have rb:=cw ju
    refine S.go 7 (.cons (cA (S.arg bC) k Tryz.underlying38) (.cons (dR (S.arg bC) 51 k) .nil)) fun ac w β S=>S.hB (α:=da) (x:=(el t k)) (p:=()) (F:=aa) (ag.el (S.arg bC) k (by omega)) (fun b h=>False.elim h) (fun b h=>False.elim h) (d:=32) fun ac w N b3 cm S up gR d19=>?_
    replace ak:=ak.up up
    clear up d19
    refine S.kj (α:=da) ak gR.al (fun _ _ h=>h) (by':=16) (d:=33) (lx:=acc.length) (ly:=1) rfl rfl (show _<=4194304 by simp only [List.length_append,List.length_cons,List.length_nil];omega) fun ac w N jO hR S up bY d24=>?_
    clear up d24
    refine S.ge 9 (.cons (cO (k:Int) 1) .nil) f8 fun ac w β S=>g0.of (l.length-(k+1)) _ _ (by omega) ⟨k+1,(acc++[(el t k)]),jO,hR,_,_,_,rfl,?_,?_,?_,S.z,bY⟩
    ·exact dn
    ·exact dn
    ·clear S;rw [Sf (by omega) (by omega)];simp_all
   have iV:=cl ju
   refine S.ge 9 (.cons (cO (k:Int) 1) .nil) f8 fun ac w β S=>g0.of (l.length-(k+1)) _ _ (by omega) ⟨k+1,acc,bZ,b7,_,_,_,rfl,?_,?_,?_,S.z,ak⟩
   ·exact dn
   ·exact dn
   ·clear S;rw [Sf (by omega) (by omega)];simp_all
  refine S.aP 13 .nil [ab acc.length bZ.1] fun ac w β S=>?_
  exact cT S (show ko l t=acc by clear S;rw [cD];exact Se (by omega)) rfl ak
 refine S.aP 20 .nil [ab acc.length bZ.1] fun ac w β S=>?_
 exact cT S (show ko l t=acc by clear S;rw [cD];exact Se (by omega)) rfl ak
theorem J7 {p:Prop} (h:p:=by clear S;first|(simp;intro e;subst e;simp_all;done)|(simp;rw [fj (by omega),fj (by omega)] at he;exact he)|(simp;exact qD (by simp_all))):p:=h
theorem YS (w0:World) (a:List da) (pa:af da) (bR:br w0 a pa) (b:List da) (aQ:af da) (hb:br w0 b aQ):Calls Tryz.prog 11 [ab a.length pa.1,ab b.length aQ.1].toArray w0 (fun e w'=>e= .returned (B (decide (a=b)))/\bX aa w0 w'):=by
 refine Calls.run aa Tryz.func11 ?_
 intro ac β S
 have Av:a.length<=4194304:=ag.le bR
 have pg:b.length<=4194304:=ag.le hb
 refine S.a8 15 .nil ((a.length:Int) != (b.length:Int)) (fun ac w β h1 bM S=>?_) (fun ac w β h1 bM S=>?_)
 ·exact S.bb 7 .nil [B false] (b4 J7)
 refine S.go 10 .nil fun ac w β S=>?_
 refine ek (fun bG ac w=>∃(k:Nat) (u:_) (N:_) (β:_),bG=a.length-k/\(k<=a.length)/\(a.length=b.length)/\(a.take k=b.take k)/\aj Tryz.prog Tryz.f11.ntmps w0 aa u N β ⟨[(0,.v (ab a.length pa.1)),(1,.v (ab b.length aQ.1)),(5,.v (R (k:Int)))],[]⟩ ac w) _ ⟨0,_,_,_,rfl,cL,cL,(by simp),S.z⟩ ?_
 clear S
 rintro f3 bG nr ac w ⟨k,u,N,β,rfl,hk,lh,he,S⟩
 refine S.rs fun S=>?_
 refine S.a8 9 .nil (decide ((k:Int)<(a.length:Int))) (fun ac w β cf gn S=>?_) (fun ac w β cf gn S=>?_)
 ·refine S.bs 8 (.cons (cA (S.arg bR) k Tryz.underlying38) (.cons (dR (S.arg bR) 51 k) (.cons (cA (S.arg hb) k Tryz.underlying38) (.cons (dR (S.arg hb) 51 k) (.cons (Vm (t:=51) (el a k) (el b k) (by kernel_rfl)) .nil))))) (!decide ((el a k)=(el b k))) (fun ac w β eH S=>?_) (fun ac w β eH S=>?_)
  ·exact S.bb 7 .nil [B false] (b4 J7)
  refine S.ge 9 (.cons (cO (k:Int) 1) .nil) f3 fun ac w β S=>nr.of (a.length-(k+1)) _ _ (by omega) ⟨k+1,_,_,_,rfl,?_,?_,?_,S.z⟩
  ·exact dn
  ·exact dn
  ·clear S;exact wK (by omega) (by omega) he (by simp_all)
 exact S.bb 12 .nil [B true] (b4 J7)
theorem D6 {p:Prop} (h:p:=by clear S;first|rfl|(have fB:=age (by omega) rk Ql;simp_all;done)):p:=h
theorem Yz (w0:World) (code:List d_) (iZ:af d_) (mS:GT.rd u_ (ga w0.heap.size) w0 code iZ):Calls Tryz.prog 3 [ab code.length iZ.1].toArray w0 (fun e w'=>e= .returned (B true)/\bX aa w0 w'):=by
 refine Calls.run aa Tryz.func3 ?_
 intro ac β S
 have Dx:code.length<=9223372036854775807:=ag.le mS
 refine S.bs 12 (.cons (aY fun w hw=>YA w code iZ (cQ (S.arg mS) hw)) .nil) (decide (((code.length:Nat):Int)>1048576)) (fun ac w β h1 S=>?_) (fun ac w β h1 S=>?_)
 ·exact S.bb 7 .nil [B true] (b4 D6)
 have pe:code.length<=1048576:=by have hx:=of_decide_eq_false h1;omega
 have Rr:br w0 code iZ:=Zs mS pe
 refine S.go 6 .nil fun ac w β S=>S.Np (d:=16) (YG w code iZ (S.rd (S.arg Rr)) (by omega)) fun ac w N lU lN b7 kR bZ ir S eU up bS a6 d10 d11 d13=>?_
 clear up d10 d11
 have Ee:=ag.le bS.al
 have afT:=ag.le a6.al
 refine S.go 10 .nil fun ac w β S=>S.Wq (d:=20) (YH w code iZ (S.rd (S.arg Rr)) (by omega)) fun ac w N g5 mn lV S iU up eg d20=>?_
 replace bS:=bS.up up
 replace a6:=a6.up up
 clear up d20
 have SR:=ag.le eg.al
 have AO:=iU.1
 have Kf:=iU.2 0 (by have ax:=iU.1;omega)
 have Kg:=iU.2 1 (by have ax:=iU.1;omega)
 refine S.go 5 .nil fun ac w β S=>S.gx (α:=bV) (d:=21) fun ac w N gv hS S up fh d31=>?_
 have d32:=J.w d31 bS.sub
 have d33:=J.w d31 a6.sub
 have d34:=J.w d31 eg.sub
 replace bS:=bS.up up
 replace a6:=a6.up up
 replace eg:=eg.up up
 clear up d31
 refine S.go 10 .nil fun ac w β S=>?_
 refine ek (fun bG ac w=>∃(k:Nat) (acc:List bV) (nD:_) (k8:_) (u:_) (N:_) (β:_),bG=kR.length-k/\(k<=kR.length)/\(acc.length<=79)/\aj Tryz.prog Tryz.f3.ntmps w0 aa u N β ⟨[(3,.v (ab lU.length lN.1)),(4,.v (ab kR.length bZ.1)),(5,.v (ab g5.length mn.1)),(6,.v (ab acc.length nD.1)),(7,.v (R (k:Int)))],[]⟩ ac w/\ai w0 aa u N k8 acc nD/\ai w0 aa u N b7 lU lN/\ai w0 aa u N ir kR bZ/\ai w0 aa u N lV g5 mn/\J k8 b7/\J k8 ir/\J k8 lV) _ ⟨0,([]:List bV),gv,hS,_,_,_,rfl,cL,(by(simp;done)),S.z,fh,bS,a6,eg,(J.symm d32),(J.symm d33),(J.symm d34)⟩ ?_
 clear S eg fh bS a6
 rintro f41 bG Ds ac w ⟨k,acc,nD,k8,u,N,β,rfl,hk,hl,S,eO,bS,a6,eg,d38,d39,d40⟩
 refine S.rs fun S=>?_
 have ao_:bz=4194304:=rfl
 have apB:0<=Int.tmod (k:Int) 8/\Int.tmod (k:Int) 8<8:=alD k 8 (by omega)
 have aqc:=iU.2 (Int.tmod (k:Int) 8).toNat (by have:=iU.1;omega)
 have lI:=alC (el g5 0+(k:Int))
 refine S.a8 9 .nil (decide ((k:Int)<(kR.length:Int))) (fun ac w β rh Hn S=>?_) (fun ac w β rh Hn S=>?_)
 ·refine S.bs 15 (.cons (cA a6.al k Tryz.underlying25) (.cons (dG a6.al 3 k 0 (R (el kR k).kind)) (.cons (aY fun w hw=>Gi w (el kR k).kind) .nil))) (!(mL (el kR k).kind)) (fun ac w β lg S=>?_) (fun ac w β lg S=>?_)
  ·have nn:=cw lg
   refine S.a8 6 .nil (decide ((acc.length:Int)<78)) (fun ac w β pc zY S=>?_) (fun ac w β pc zY S=>?_)
   ·refine S.go 8 (.cons (cA a6.al k Tryz.underlying25) (.cons (dR a6.al 32 k) .nil)) fun ac w β S=>S.hB (α:=bV) (x:=(el kR k)) (p:=()) (F:=aa) (ag.el a6.al k (by omega)) (fun b h=>False.elim h) (fun b h=>False.elim h) (d:=45) fun ac w N qu oX S up hr d52=>?_
    replace eO:=eO.up up
    replace bS:=bS.up up
    replace a6:=a6.up up
    replace eg:=eg.up up
    clear up d52
    refine S.kj (α:=bV) eO hr.al (fun _ _ h=>h) (by':=48) (d:=46) (lx:=acc.length) (ly:=1) rfl rfl (show _<=4194304 by simp only [List.length_append,List.length_cons,List.length_nil];omega) fun ac w N Bj FB S up lJ d60=>?_
    have d61:=d60 _ (J.symm d38) bS.sub
    have d62:=d60 _ (J.symm d39) a6.sub
    have d63:=d60 _ (J.symm d40) eg.sub
    replace bS:=bS.bp (J.symm d38) up
    replace a6:=a6.bp (J.symm d39) up
    replace eg:=eg.bp (J.symm d40) up
    clear up d60
    refine S.a8 16 (.cons (rU (x:=(k:Int)) (y:=8) (by decide)) (.cons (cP eg.al (Int.tmod (k:Int) 8) Tryz.underlying28) (.cons (cn eg.al 3 ((Int.tmod (k:Int) 8).toNat)) (.cons (cO (el g5 (Int.tmod (k:Int) 8).toNat) (k:Int)) (.cons (rU (x:=((el g5 (Int.tmod (k:Int) 8).toNat)+(k:Int))) (y:=5) (by decide)) .nil))))) ((Int.tmod ((el g5 (Int.tmod (k:Int) 8).toNat)+(k:Int)) 5)==0) (fun ac w β rj z1 S=>?_) (fun ac w β rj z1 S=>?_)
    ·refine S.go 1 .nil fun ac w β S=>?_
     refine dj ?_
     refine S.df (f:=20) 18 (by kernel_rfl) (by kernel_rfl) fun w S=>?_
     refine S.aI 0 [0] [] [(56,.v (ab (acc++[(el kR k)]).length Bj.1))] .nil fun ac S=>?_
     refine S.aI 1 [17,16,7,6,5,3,2,1] [] [(57,.v (ab g5.length mn.1))] .nil fun ac S=>?_
     refine S.aI 2 [17,16,7,6,5,3,2] [] [(58,.v (aM mn.1.b (mn.1.off+0*1)))] (.cons (cA eg.al 0 Tryz.underlying28) .nil) fun ac S=>?_
     refine S.aI 3 [17,16,7,6,5,3] [] [(59,.v (R (el g5 0)))] (.cons (cn eg.al 3 0) .nil) fun ac S=>?_
     refine S.aI 4 [17,16,7,6,5,4] [] [(60,.v (R (k:Int)))] .nil fun ac S=>?_
     refine S.aI 5 [17,16,7,6,5] [] [(61,.v (R ((el g5 0)+(k:Int))))] (.cons (cO (el g5 0) (k:Int)) .nil) fun ac S=>?_
     refine S.aI 6 [17,16,7,6] [] [(62,.v (R (Int.tmod ((el g5 0)+(k:Int)) 5)))] (.cons (rU (x:=((el g5 0)+(k:Int))) (y:=5) (by decide)) .nil) fun ac S=>?_
     refine S.aI 7 [17,16,7] [] [(63,.v (R (13+(Int.tmod ((el g5 0)+(k:Int)) 5))))] (.cons (cO 13 (Int.tmod ((el g5 0)+(k:Int)) 5)) .nil) fun ac S=>?_
     refine S.aI 8 [17,16,9,8] [] [(64,.v (R (k:Int)))] .nil fun ac S=>?_
     refine S.aI 9 [17,16,9] [] [(65,.v (R (Int.tmod (k:Int) 2)))] (.cons (rU (x:=(k:Int)) (y:=2) (by decide)) .nil) fun ac S=>?_
     refine S.aI 10 [17,16,15,14,12,11,10] [] [(66,.v (ab g5.length mn.1))] .nil fun ac S=>?_
     refine S.aI 11 [17,16,15,14,12,11] [] [(67,.v (aM mn.1.b (mn.1.off+1*1)))] (.cons (cA eg.al 1 Tryz.underlying28) .nil) fun ac S=>?_
     refine S.aI 12 [17,16,15,14,12] [] [(68,.v (R (el g5 1)))] (.cons (cn eg.al 3 1) .nil) fun ac S=>?_
     refine S.aI 13 [17,16,15,14,13] [] [(69,.v (R (k:Int)))] .nil fun ac S=>?_
     refine S.aI 14 [17,16,15,14] [] [(70,.v (R ((el g5 1)+(k:Int))))] (.cons (cO (el g5 1) (k:Int)) .nil) fun ac S=>?_
     refine S.aI 15 [17,16,15] [] [(71,.v (R (Int.tmod ((el g5 1)+(k:Int)) 8)))] (.cons (rU (x:=((el g5 1)+(k:Int))) (y:=8) (by decide)) .nil) fun ac S=>?_
     refine S.aI 16 [17,16] [] [(72,.v (GT.val (⟨(13+(Int.tmod ((el g5 0)+(k:Int)) 5)),(Int.tmod (k:Int) 2),0,(Int.tmod ((el g5 1)+(k:Int)) 8),0,0⟩:bV) ()))] (.cons (dY (s:=Instr.build 32 [(0,R (13+(Int.tmod ((el g5 0)+(k:Int)) 5))),(1,R (Int.tmod (k:Int) 2)),(3,R (Int.tmod ((el g5 1)+(k:Int)) 8))].toArray) (v:= .agg [R (13+(Int.tmod ((el g5 0)+(k:Int)) 5)),R (Int.tmod (k:Int) 2),R 0,R (Int.tmod ((el g5 1)+(k:Int)) 8),R 0,R 0].toArray) (fun w=>by kernel_rfl)) .nil) fun ac S=>?_
     refine ao.one (i:=17) (by kernel_rfl) ?_
     refine id (S.pT (α:=bV) (x:=(⟨(13+(Int.tmod ((el g5 0)+(k:Int)) 5)),(Int.tmod (k:Int) 2),0,(Int.tmod ((el g5 1)+(k:Int)) 8),0,0⟩:bV)) (p:=()) (F:=aa) (show dv (⟨(13+(Int.tmod ((el g5 0)+(k:Int)) 5)),(Int.tmod (k:Int) 2),0,(Int.tmod ((el g5 1)+(k:Int)) 8),0,0⟩:bV) from⟨(show aq (13+(Int.tmod ((el g5 0)+(k:Int)) 5)) from⟨by omega,by omega⟩),(show aq (Int.tmod (k:Int) 2) from Mo (by decide)),(show aq 0 from⟨by decide,by decide⟩),(show aq (Int.tmod ((el g5 1)+(k:Int)) 8) from Mo (by decide)),(show aq 0 from⟨by decide,by decide⟩),(show aq 0 from⟨by decide,by decide⟩)⟩) (fun b h=>False.elim h) (fun b h=>False.elim h) (d:=73) (by kernel_rfl) fun ac w N uQ B5 S up oI d70=>?_)
     refine ao.next S up (by kernel_rfl) ?_
     replace bS:=bS.up up
     replace a6:=a6.up up
     replace eg:=eg.up up
     replace lJ:=lJ.up up
     clear up d70
     refine ao.one (i:=18) (by kernel_rfl) ?_
     refine id (S.Cd (α:=bV) lJ oI.al (fun _ _ h=>h) (by':=48) (d:=74) (lx:=(acc++[(el kR k)]).length) (ly:=1) rfl rfl (by kernel_rfl) (show _<=4194304 by simp only [List.length_append,List.length_cons,List.length_nil];omega) fun ac w N ER FF S up aiz d78=>?_)
     refine ao.last (by kernel_rfl) ?_
     have d79:=d78 _ d61 bS.sub
     have d80:=d78 _ d62 a6.sub
     have d81:=d78 _ d63 eg.sub
     replace bS:=bS.bp d61 up
     replace a6:=a6.bp d62 up
     replace eg:=eg.bp d63 up
     clear up d78
     refine S.b8 19 [] [(6,.v (ab ((acc++[(el kR k)])++[(⟨(13+(Int.tmod ((el g5 0)+(k:Int)) 5)),(Int.tmod (k:Int) 2),0,(Int.tmod ((el g5 1)+(k:Int)) 8),0,0⟩:bV)]).length ER.1))] 0 [] .nil fun ac w β S=>?_
     refine ao.done (by kernel_rfl) ?_ _
     refine S.ex fun S=>?_
     refine S.ge 7 (.cons (cO (k:Int) 1) .nil) f41 fun ac w β S=>Ds.of (kR.length-(k+1)) _ _ (by omega) ⟨k+1,((acc++[(el kR k)])++[(⟨(13+(Int.tmod ((el g5 0)+(k:Int)) 5)),(Int.tmod (k:Int) 2),0,(Int.tmod ((el g5 1)+(k:Int)) 8),0,0⟩:bV)]),ER,FF,_,_,_,rfl,?_,?_,S.z,aiz,bS,a6,eg,(J.symm d79),(J.symm d80),(J.symm d81)⟩
     ·exact dn
     ·clear S;((try simp);omega)
    refine S.ge 9 (.cons (cO (k:Int) 1) .nil) f41 fun ac w β S=>Ds.of (kR.length-(k+1)) _ _ (by omega) ⟨k+1,(acc++[(el kR k)]),Bj,FB,_,_,_,rfl,?_,?_,S.z,lJ,bS,a6,eg,(J.symm d61),(J.symm d62),(J.symm d63)⟩
    ·exact dn
    ·clear S;((try simp);omega)
   refine S.ge 9 (.cons (cO (k:Int) 1) .nil) f41 fun ac w β S=>Ds.of (kR.length-(k+1)) _ _ (by omega) ⟨k+1,acc,nD,k8,_,_,_,rfl,?_,?_,S.z,eO,bS,a6,eg,d38,d39,d40⟩
   ·exact dn
   ·clear S;((try simp);omega)
  have aoZ:=cl lg
  refine S.ge 15 (.cons (cO (k:Int) 1) .nil) f41 fun ac w β S=>Ds.of (kR.length-(k+1)) _ _ (by omega) ⟨k+1,acc,nD,k8,_,_,_,rfl,?_,?_,S.z,eO,bS,a6,eg,d38,d39,d40⟩
  ·exact dn
  ·clear S;((try simp);omega)
 obtain⟨bq,rk⟩:∃z,z=p2 lU acc:=⟨_,rfl⟩
 refine S.go 10 .nil fun ac w β S=>S.fk (r:=bq.1) (r':=bq.2) (d:=78) (by rw [rk];exact N8 w lU lN (S.rd bS.al) acc nD (S.rd eO.al)) fun ac w N n2 ey ff Nh S up rC uG d90 d91 d92=>?_
 replace eO:=eO.up up
 replace bS:=bS.up up
 clear up d90
 clear d91
 refine S.go 12 .nil fun ac w β S=>S.ct (r:=k1 acc) (d:=84) (YU w acc nD (S.rd eO.al)) fun ac w N iq fF S up ht d100=>?_
 replace eO:=eO.up up
 replace bS:=bS.up up
 replace rC:=rC.up up
 replace uG:=uG.up up
 clear up d100
 obtain⟨w6,Ql⟩:∃z,z=p2 lU (k1 acc):=⟨_,rfl⟩
 refine S.fk (r:=w6.1) (r':=w6.2) (d:=85) (by rw [Ql];exact N8 w lU lN (S.rd bS.al) (k1 acc) iq (S.rd ht.al)) fun ac w N LC im fE al6 S up ag4 fV d111 d112 d113=>?_
 replace eO:=eO.up up
 replace rC:=rC.up up
 replace uG:=uG.up up
 clear up d111
 clear d112
 refine S.bs 14 (.cons (aY fun w hw=>YR w bq.1 n2 (cQ rC.al hw) w6.1 LC (cQ ag4.al hw)) .nil) (sc bq.1 w6.1) (fun ac w β ack S=>?_) (fun ac w β ack S=>?_)
 ·refine S.go 2 .nil fun ac w β S=>S.ct (r:=ko acc bq.2) (d:=94) (YI w acc nD (S.rd eO.al) bq.2 ey (S.rd uG.al)) fun ac w N LD al8 S up ag8 d128=>?_
  replace fV:=fV.up up
  clear up d128
  refine S.bs 4 (.cons (aY fun w hw=>YS w (ko acc bq.2) LD (cQ ag8.al hw) w6.2 im (cQ fV.al hw)) .nil) (decide ((ko acc bq.2)=w6.2)) (fun ac w β acp S=>?_) (fun ac w β acp S=>?_)
  ·exact S.bb 10 .nil [B ((bq.2.length:Int)==(acc.length:Int))] (b4 D6)
  exact S.bb 10 .nil [B false] (b4 D6)
 exact S.bb 17 .nil [B false] (b4 D6)
end Go.Proofs.YtmeoackmjdoecaaGreat
