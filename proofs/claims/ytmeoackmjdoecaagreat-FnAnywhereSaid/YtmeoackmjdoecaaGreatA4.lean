/- The walks: what each function that the laws reach computes (part 1). -/
import Derived.Test.YtmeoackmjdoecaaGreatA1
import Derived.Test.YtmeoackmjdoecaaGreatA2
import Derived.Test.YtmeoackmjdoecaaGreatA3
import Derived.Test.YtmeoackmjdoecaaGreatProg
import Derived.KernelRfl
namespace Go.Proofs.YtmeoackmjdoecaaGreat
open Go
set_option linter.unusedVariables false
set_option linter.unusedSimpArgs false
set_option maxRecDepth 100000
set_option maxHeartbeats 2000000
theorem YA (w0:World) (code:List d_) (iZ:af d_) (mS:GT.rd u_ (ga w0.heap.size) w0 code iZ):Calls Tryz.prog 4 [ab code.length iZ.1].toArray w0 (fun e w'=>e= .returned (B (decide (((code.length:Nat):Int)>1048576)))/\bX aa w0 w'):=by
 refine Calls.run aa Tryz.func4 ?_
 intro ac β S
 have Dx:code.length<=9223372036854775807:=ag.le mS
 exact S.bb 14 .nil [B (decide ((code.length:Int)>1048576))] (b4 (by clear S;rfl))
theorem r3 (w0:World) (cF:List d_) (cX:af d_) (G F:aw) (q:af eW) (hc:jm cF cX G F w0 q) (list:List Int) (qt:af Int) (Nm:aw) (sq:GT.rd bz Nm w0 list qt) (Hr:∀b,Nm b->b<w0.heap.size/\¬F b) (jh:0<list.length):Calls Tryz.prog 54 [aM q.1.b (q.1.off+0*3),ab list.length qt.1].toArray w0 (lZ cF cX G F q w0 (fun(r:Int)=>∃k,k<list.length/\r=el list k)):=by
 refine Calls.run F Tryz.func54 ?_
 intro ac β S
 have aF:=hc.aF
 have aeI:list.length<=4194304:=ag.le sq
 refine S.go 11 .nil fun ac w β S=>S.dS (d:=9) aF (gK w cF cX G F q (S.dL aF) (list.length:Int) ⟨by omega,by omega⟩) fun ac w N cb eP cR S dU up eY d5 cy=>?_
 replace aF:=cy
 clear up d5
 have i7:aq cb:=eY.own
 have Kl:=i7.b9;have Km:=i7.hi
 refine S.aP 6 (.cons (cP (S.tj sq Hr) cb Tryz.underlying28) (.cons (cn (S.tj sq Hr) 3 cb.toNat) .nil)) [R (el list cb.toNat)] fun ac w β S=>?_
 exact fY (F1:=aa) (p:=()) S (show ∃k,k<list.length/\(el list cb.toNat)=el list k by clear S;first|exact⟨_,by omega,rfl⟩|trivial) rfl ⟨(ag.el (S.tj sq Hr) cb.toNat (by omega)),fun _ h=>False.elim h,fun _ h=>False.elim h⟩ (fun b h _=>False.elim h) aF
theorem YX (w0:World) (cF:List d_) (cX:af d_) (G F:aw) (q:af eW) (hc:jm cF cX G F w0 q):Calls Tryz.prog 176 [aM q.1.b (q.1.off+0*3)].toArray w0 (lZ cF cX G F q w0 (fun(r:cE)=>True)):=by
 refine Calls.run F Tryz.func176 ?_
 intro ac β S
 have aF:=hc.aF
 refine S.go 8 .nil fun ac w β S=>S.qH ([1,2,3,3,3,4,4,4,5,6,8]:List Int) () (d:=5) (List.forall_mem_cons.2 ⟨fun _=>(show aq 1 from⟨by decide,by decide⟩),List.forall_mem_cons.2 ⟨fun _=>(show aq 2 from⟨by decide,by decide⟩),List.forall_mem_cons.2 ⟨fun _=>(show aq 3 from⟨by decide,by decide⟩),List.forall_mem_cons.2 ⟨fun _=>(show aq 3 from⟨by decide,by decide⟩),List.forall_mem_cons.2 ⟨fun _=>(show aq 3 from⟨by decide,by decide⟩),List.forall_mem_cons.2 ⟨fun _=>(show aq 4 from⟨by decide,by decide⟩),List.forall_mem_cons.2 ⟨fun _=>(show aq 4 from⟨by decide,by decide⟩),List.forall_mem_cons.2 ⟨fun _=>(show aq 4 from⟨by decide,by decide⟩),List.forall_mem_cons.2 ⟨fun _=>(show aq 5 from⟨by decide,by decide⟩),List.forall_mem_cons.2 ⟨fun _=>(show aq 6 from⟨by decide,by decide⟩),List.forall_mem_cons.2 ⟨fun _=>(show aq 8 from⟨by decide,by decide⟩),List.forall_mem_nil _⟩⟩⟩⟩⟩⟩⟩⟩⟩⟩⟩) (show 11<=4194304 by decide) fun ac w N ae aX S up au d4=>?_
 have d5:=J.w d4 aF.sub
 replace aF:=aF.up up
 clear up d4
 refine S.dS (d:=6) aF (r3 w cF cX G F q (S.dL aF) ([1,2,3,3,3,4,4,4,5,6,8]:List Int) ae aX (GT.fb (S.hP au)) (fun b hb=>⟨(S.sep b (au.sub b hb)).1,(J.symm d5) b hb⟩) (by first|omega|decide|(simp;done))) fun ac w N lv uR eE S gp up a6 d10 cy=>?_
 replace aF:=cy
 clear up d10
 have i12:aq lv:=a6.own
 have SQ:=i12.b9;have Ee:=i12.hi
 refine S.a8 20 (.cons (dY (s:=Instr.build 158 [(0,R lv)].toArray) (v:= .agg [R lv,R 0].toArray) (fun w=>by kernel_rfl)) .nil) (lv==3) (fun ac w β rb tO S=>?_) (fun ac w β rb tO S=>?_)
 ·refine S.go 6 .nil fun ac w β S=>S.dS (d:=17) aF (gK w cF cX G F q (S.dL aF) 16 (show aq 16 from⟨by decide,by decide⟩)) fun ac w N Mw nB kT S tU up en d21 cy=>?_
  replace aF:=cy
  clear up d21
  have i23:aq Mw:=en.own
  have SR:=i23.b9;have AO:=i23.hi
  refine S.aP 12 .nil [GT.val (⟨lv,Mw⟩:cE) ()] fun ac w β S=>?_
  exact fY (F1:=aa) (p:=()) S (show True by clear S;trivial) rfl ⟨(show k9 (⟨lv,Mw⟩:cE) from⟨i12,i23⟩),fun _ h=>False.elim h,fun _ h=>False.elim h⟩ (fun b h _=>False.elim h) aF
 refine S.a8 6 .nil (lv==4) (fun ac w β iV tQ S=>?_) (fun ac w β iV tQ S=>?_)
 ·refine S.go 3 .nil fun ac w β S=>S.dS (d:=17) aF (gK w cF cX G F q (S.dL aF) 16 (show aq 16 from⟨by decide,by decide⟩)) fun ac w N MI jE mw S nk up fN d32 cy=>?_
  replace aF:=cy
  clear up d32
  have i34:aq MI:=fN.own
  have SV:=i34.b9;have aq1:=i34.hi
  refine S.aP 12 .nil [GT.val (⟨lv,MI⟩:cE) ()] fun ac w β S=>?_
  exact fY (F1:=aa) (p:=()) S (show True by clear S;trivial) rfl ⟨(show k9 (⟨lv,MI⟩:cE) from⟨i12,i34⟩),fun _ h=>False.elim h,fun _ h=>False.elim h⟩ (fun b h _=>False.elim h) aF
 refine S.a8 7 .nil (lv==8) (fun ac w β vD Hk S=>?_) (fun ac w β vD Hk S=>?_)
 ·refine S.go 3 .nil fun ac w β S=>S.dS (d:=22) aF (gK w cF cX G F q (S.dL aF) 4 (show aq 4 from⟨by decide,by decide⟩)) fun ac w N wP Uf oW S sj up kc d43 cy=>?_
  replace aF:=cy
  clear up d43
  have i45:aq wP:=kc.own
  have afZ:=i45.b9;have Ki:=i45.hi
  refine S.aP 12 .nil [GT.val (⟨lv,wP⟩:cE) ()] fun ac w β S=>?_
  exact fY (F1:=aa) (p:=()) S (show True by clear S;trivial) rfl ⟨(show k9 (⟨lv,wP⟩:cE) from⟨i12,i45⟩),fun _ h=>False.elim h,fun _ h=>False.elim h⟩ (fun b h _=>False.elim h) aF
 refine S.go 3 .nil fun ac w β S=>S.dS (d:=11) aF (gK w cF cX G F q (S.dL aF) 100 (show aq 100 from⟨by decide,by decide⟩)) fun ac w N MO qu oX S Di up hr d52 cy=>?_
 replace aF:=cy
 clear up d52
 have i54:aq MO:=hr.own
 have aq_:=i54.b9;have af4:=i54.hi
 refine S.aP 12 .nil [GT.val (⟨lv,MO⟩:cE) ()] fun ac w β S=>?_
 exact fY (F1:=aa) (p:=()) S (show True by clear S;trivial) rfl ⟨(show k9 (⟨lv,MO⟩:cE) from⟨i12,i54⟩),fun _ h=>False.elim h,fun _ h=>False.elim h⟩ (fun b h _=>False.elim h) aF
theorem zy (w0:World) (cF:List d_) (cX:af d_) (G F:aw) (q:af eW) (hc:jm cF cX G F w0 q) (n:Int) (bc:aq n):Calls Tryz.prog 24 [aM q.1.b (q.1.off+0*3),R n].toArray w0 (lZ cF cX G F q w0 (fun(r:Bool)=>True)):=by
 refine Calls.run F Tryz.func24 ?_
 intro ac β S
 have aF:=hc.aF
 have yb:=bc.b9;have x5:=bc.hi
 refine S.go 9 .nil fun ac w β S=>S.dS (d:=7) aF (gK w cF cX G F q (S.dL aF) n bc) fun ac w N cb eP cR S dU up eY d5 cy=>?_
 replace aF:=cy
 clear up d5
 have i7:aq cb:=eY.own
 have Kl:=i7.b9;have Km:=i7.hi
 refine S.aP 5 .nil [B (cb==0)] fun ac w β S=>?_
 exact fY (F1:=aa) (p:=()) S (show True by clear S;trivial) rfl ⟨trivial,fun _ h=>False.elim h,fun _ h=>False.elim h⟩ (fun b h _=>False.elim h) aF
theorem YY (w0:World) (cF:List d_) (cX:af d_) (G F:aw) (q:af eW) (hc:jm cF cX G F w0 q):Calls Tryz.prog 114 [aM q.1.b (q.1.off+0*3)].toArray w0 (lZ cF cX G F q w0 (fun(r:List cE)=>True)):=by
 refine Calls.run F Tryz.func114 ?_
 intro ac β S
 have aF:=hc.aF
 refine S.go 7 .nil fun ac w β S=>S.gx (α:=cE) (d:=5) fun ac w N ae aX S up au d4=>?_
 have d5:=J.w d4 aF.sub
 replace aF:=aF.up up
 clear up d4
 refine S.go 10 .nil fun ac w β S=>?_
 refine ek (fun bG ac w=>∃(k:Nat) (acc:List cE) (e7:_) (ir:_) (u:_) (N:_) (β:_),bG=8-k/\(k<=8)/\(acc.length=k)/\aj Tryz.prog Tryz.f114.ntmps w0 F u N β ⟨[(0,.v (aM q.1.b (q.1.off+0*3))),(3,.v (ab acc.length e7.1)),(4,.v (R (k:Int)))],[]⟩ ac w/\ai w0 F u N ir acc e7/\iJ cF cX G w0 F u N F q/\J ir F) _ ⟨0,([]:List cE),ae,aX,_,_,_,rfl,cL,(by rfl),S.z,au,aF,(J.symm d5)⟩ ?_
 clear S au aF
 rintro f10 bG Ao ac w ⟨k,acc,e7,ir,u,N,β,rfl,hk,hl,S,bS,aF,d9⟩
 refine S.rs fun S=>?_
 refine S.go 5 .nil fun ac w β S=>S.dS (d:=8) aF (gK w cF cX G F q (S.dL aF) 7 (show aq 7 from⟨by decide,by decide⟩)) fun ac w N qF ic e3 S j7 up aT d16 cy=>?_
 replace bS:=bS.bp d9 up
 replace aF:=cy
 clear up d16
 have i18:aq qF:=aT.own
 have Ef:=i18.b9;have Eg:=i18.hi
 refine S.a8 4 (.cons (cO 2 qF) .nil) (decide ((k:Int)<(2+qF))) (fun ac w β iU o9 S=>?_) (fun ac w β iU o9 S=>?_)
 ·refine S.go 8 .nil fun ac w β S=>S.dS (d:=15) aF (YX w cF cX G F q (S.dL aF)) fun ac w N s_ eA c5 S fo up gg d27 cy=>?_
  replace bS:=bS.bp d9 up
  replace aF:=cy
  clear up d27
  have i29:k9 s_:=gg.own
  refine S.hB (α:=cE) (x:=s_) (p:=()) (F:=aa) i29 (fun b h=>False.elim h) (fun b h=>False.elim h) (d:=16) fun ac w N fI fZ S up eV d33=>?_
  replace bS:=bS.up up
  replace aF:=aF.up up
  clear up d33
  refine S.kj (α:=cE) bS eV.al (fun _ _ h=>h) (by':=16) (d:=17) (lx:=acc.length) (ly:=1) rfl rfl (show _<=4194304 by simp only [List.length_append,List.length_cons,List.length_nil];omega) fun ac w N e6 gy S up gT d39=>?_
  have d40:=d39 _ (J.symm d9) aF.sub
  replace aF:=aF.bp (J.symm d9) up
  clear up d39
  refine S.ge 9 (.cons (cO (k:Int) 1) .nil) f10 fun ac w β S=>Ao.of (8-(k+1)) _ _ (by omega) ⟨k+1,(acc++[s_]),e6,gy,_,_,_,rfl,?_,?_,S.z,gT,aF,(J.symm d40)⟩
  ·exact dn
  ·clear S;(simp;omega)
 refine S.go 10 .nil fun ac w β S=>S.dS (d:=19) aF (zy w cF cX G F q (S.dL aF) 3 (show aq 3 from⟨by decide,by decide⟩)) fun ac w N alV mo lW S pc up fu d46 cy=>?_
 replace bS:=bS.bp d9 up
 replace aF:=cy
 clear up d46
 refine S.bs 2 .nil alV (fun ac w β vE S=>?_) (fun ac w β vE S=>?_)
 ·refine S.go 4 (.cons (dY (s:=Instr.build 158 [(0,R 7)].toArray) (v:= .agg [R 7,R 0].toArray) (fun w=>by kernel_rfl)) .nil) fun ac w β S=>S.hB (α:=cE) (x:=(⟨7,0⟩:cE)) (p:=()) (F:=aa) (show k9 (⟨7,0⟩:cE) from⟨(show aq 7 from⟨by decide,by decide⟩),(show aq 0 from⟨by decide,by decide⟩)⟩) (fun b h=>False.elim h) (fun b h=>False.elim h) (d:=22) fun ac w N qu oX S up hr d52=>?_
  replace bS:=bS.up up
  replace aF:=aF.up up
  clear up d52
  refine S.kj (α:=cE) bS hr.al (fun _ _ h=>h) (by':=16) (d:=23) (lx:=acc.length) (ly:=1) rfl rfl (show _<=4194304 by simp only [List.length_append,List.length_cons,List.length_nil];omega) fun ac w N akg Ng S up yz d58=>?_
  have d59:=d58 _ (J.symm d9) aF.sub
  replace aF:=aF.bp (J.symm d9) up
  clear up d58
  refine S.aP 10 .nil [ab (acc++[(⟨7,0⟩:cE)]).length akg.1] fun ac w β S=>?_
  exact fY S (show True by clear S;trivial) rfl yz (J.symm d59) aF
 refine S.go 4 (.cons (dY (s:=Instr.build 158 [(0,R 8)].toArray) (v:= .agg [R 8,R 0].toArray) (fun w=>by kernel_rfl)) .nil) fun ac w β S=>S.hB (α:=cE) (x:=(⟨8,0⟩:cE)) (p:=()) (F:=aa) (show k9 (⟨8,0⟩:cE) from⟨(show aq 8 from⟨by decide,by decide⟩),(show aq 0 from⟨by decide,by decide⟩)⟩) (fun b h=>False.elim h) (fun b h=>False.elim h) (d:=26) fun ac w N pH pP S up py d64=>?_
 replace bS:=bS.up up
 replace aF:=aF.up up
 clear up d64
 refine S.kj (α:=cE) bS py.al (fun _ _ h=>h) (by':=16) (d:=27) (lx:=acc.length) (ly:=1) rfl rfl (show _<=4194304 by simp only [List.length_append,List.length_cons,List.length_nil];omega) fun ac w N uQ B5 S up oI d70=>?_
 have d71:=d70 _ (J.symm d9) aF.sub
 replace aF:=aF.bp (J.symm d9) up
 clear up d70
 refine S.aP 10 .nil [ab (acc++[(⟨8,0⟩:cE)]).length uQ.1] fun ac w β S=>?_
 exact fY S (show True by clear S;trivial) rfl oI (J.symm d71) aF
theorem Y2 (w0:World) (cF:List d_) (cX:af d_) (G F:aw) (q:af eW) (hc:jm cF cX G F w0 q):Calls Tryz.prog 50 [aM q.1.b (q.1.off+0*3)].toArray w0 (lZ cF cX G F q w0 (fun(r:List (List cE))=>True)):=by
 refine Calls.run F Tryz.func50 ?_
 intro ac β S
 have aF:=hc.aF
 refine S.go 7 .nil fun ac w β S=>S.gx (α:=List cE) (d:=5) fun ac w N ae aX S up au d4=>?_
 have d5:=J.w d4 aF.sub
 replace aF:=aF.up up
 clear up d4
 refine S.go 10 .nil fun ac w β S=>?_
 refine ek (fun bG ac w=>∃(k:Nat) (acc:List (List cE)) (e7:_) (ir:_) (u:_) (N:_) (β:_),bG=2-k/\(k<=2)/\(acc.length=k)/\aj Tryz.prog Tryz.f50.ntmps w0 F u N β ⟨[(0,.v (aM q.1.b (q.1.off+0*3))),(3,.v (ab acc.length e7.1)),(4,.v (R (k:Int)))],[]⟩ ac w/\ai w0 F u N ir acc e7/\iJ cF cX G w0 F u N F q/\J ir F) _ ⟨0,([]:List (List cE)),ae,aX,_,_,_,rfl,cL,(by rfl),S.z,au,aF,(J.symm d5)⟩ ?_
 clear S au aF
 rintro f10 bG Ao ac w ⟨k,acc,e7,ir,u,N,β,rfl,hk,hl,S,bS,aF,d9⟩
 refine S.rs fun S=>?_
 refine S.go 5 .nil fun ac w β S=>S.dS (d:=8) aF (gK w cF cX G F q (S.dL aF) 2 (show aq 2 from⟨by decide,by decide⟩)) fun ac w N qF ic e3 S j7 up aT d16 cy=>?_
 replace bS:=bS.bp d9 up
 replace aF:=cy
 clear up d16
 have i18:aq qF:=aT.own
 have Ef:=i18.b9;have Eg:=i18.hi
 refine S.a8 4 (.cons (cO 1 qF) .nil) (decide ((k:Int)<(1+qF))) (fun ac w β iU o9 S=>?_) (fun ac w β iU o9 S=>?_)
 ·refine S.go 8 .nil fun ac w β S=>S.dS (d:=15) aF (YY w cF cX G F q (S.dL aF)) fun ac w N s_ eA c5 S fo up gg d27 cy=>?_
  have d29:=J.w d27 bS.sub
  have d30:=J.w d27 aF.sub
  replace bS:=bS.bp d9 up
  replace aF:=cy
  clear up d27
  have SS:=ag.le gg.al
  refine S.hB (α:=List cE) (x:=s_) (p:=eA) gg.own gg.sub gg.cU (d:=16) fun ac w N hA u5 S up k4 d35=>?_
  have d36:=d35 _ d29 bS.sub
  have d37:=d35 _ d30 aF.sub
  replace bS:=bS.up up
  replace aF:=aF.up up
  clear up d35
  refine S.qG (α:=List cE) bS k4 d36 (by':=24) (d:=17) (lx:=acc.length) (ly:=1) rfl rfl (show _<=4194304 by simp only [List.length_append,List.length_cons,List.length_nil];omega) fun ac w N n1 qK S up ln d41=>?_
  have d42:=d41 _ (J.symm d9) d37 aF.sub
  replace aF:=aF.bp (J.symm d9) up
  clear up d41
  refine S.ge 9 (.cons (cO (k:Int) 1) .nil) f10 fun ac w β S=>Ao.of (2-(k+1)) _ _ (by omega) ⟨k+1,(acc++[s_]),n1,qK,_,_,_,rfl,?_,?_,S.z,ln,aF,(J.symm d42)⟩
  ·exact dn
  ·clear S;(simp;omega)
 refine S.aP 13 .nil [ab acc.length e7.1] fun ac w β S=>?_
 exact fY S (show True by clear S;trivial) rfl bS d9 aF
theorem Y4 (w0:World) (cF:List d_) (cX:af d_) (G F:aw) (q:af eW) (hc:jm cF cX G F w0 q):Calls Tryz.prog 22 [aM q.1.b (q.1.off+0*3)].toArray w0 (lZ cF cX G F q w0 (fun(r:List (List (List cE)))=>True)):=by
 refine Calls.run F Tryz.func22 ?_
 intro ac β S
 have aF:=hc.aF
 refine S.go 7 .nil fun ac w β S=>S.gx (α:=List (List cE)) (d:=5) fun ac w N ae aX S up au d4=>?_
 have d5:=J.w d4 aF.sub
 replace aF:=aF.up up
 clear up d4
 refine S.go 10 .nil fun ac w β S=>?_
 refine ek (fun bG ac w=>∃(k:Nat) (acc:List (List (List cE))) (e7:_) (ir:_) (u:_) (N:_) (β:_),bG=2-k/\(k<=2)/\(acc.length=k)/\aj Tryz.prog Tryz.f22.ntmps w0 F u N β ⟨[(0,.v (aM q.1.b (q.1.off+0*3))),(3,.v (ab acc.length e7.1)),(4,.v (R (k:Int)))],[]⟩ ac w/\ai w0 F u N ir acc e7/\iJ cF cX G w0 F u N F q/\J ir F) _ ⟨0,([]:List (List (List cE))),ae,aX,_,_,_,rfl,cL,(by rfl),S.z,au,aF,(J.symm d5)⟩ ?_
 clear S au aF
 rintro f10 bG Ao ac w ⟨k,acc,e7,ir,u,N,β,rfl,hk,hl,S,bS,aF,d9⟩
 refine S.rs fun S=>?_
 refine S.go 5 .nil fun ac w β S=>S.dS (d:=8) aF (gK w cF cX G F q (S.dL aF) 2 (show aq 2 from⟨by decide,by decide⟩)) fun ac w N qF ic e3 S j7 up aT d16 cy=>?_
 replace bS:=bS.bp d9 up
 replace aF:=cy
 clear up d16
 have i18:aq qF:=aT.own
 have Ef:=i18.b9;have Eg:=i18.hi
 refine S.a8 4 (.cons (cO 1 qF) .nil) (decide ((k:Int)<(1+qF))) (fun ac w β iU o9 S=>?_) (fun ac w β iU o9 S=>?_)
 ·refine S.go 8 .nil fun ac w β S=>S.dS (d:=15) aF (Y2 w cF cX G F q (S.dL aF)) fun ac w N s_ eA c5 S fo up gg d27 cy=>?_
  have d29:=J.w d27 bS.sub
  have d30:=J.w d27 aF.sub
  replace bS:=bS.bp d9 up
  replace aF:=cy
  clear up d27
  have SS:=ag.le gg.al
  refine S.hB (α:=List (List cE)) (x:=s_) (p:=eA) gg.own gg.sub gg.cU (d:=16) fun ac w N hA u5 S up k4 d35=>?_
  have d36:=d35 _ d29 bS.sub
  have d37:=d35 _ d30 aF.sub
  replace bS:=bS.up up
  replace aF:=aF.up up
  clear up d35
  refine S.qG (α:=List (List cE)) bS k4 d36 (by':=24) (d:=17) (lx:=acc.length) (ly:=1) rfl rfl (show _<=4194304 by simp only [List.length_append,List.length_cons,List.length_nil];omega) fun ac w N n1 qK S up ln d41=>?_
  have d42:=d41 _ (J.symm d9) d37 aF.sub
  replace aF:=aF.bp (J.symm d9) up
  clear up d41
  refine S.ge 9 (.cons (cO (k:Int) 1) .nil) f10 fun ac w β S=>Ao.of (2-(k+1)) _ _ (by omega) ⟨k+1,(acc++[s_]),n1,qK,_,_,_,rfl,?_,?_,S.z,ln,aF,(J.symm d42)⟩
  ·exact dn
  ·clear S;(simp;omega)
 refine S.aP 13 .nil [ab acc.length e7.1] fun ac w β S=>?_
 exact fY S (show True by clear S;trivial) rfl bS d9 aF
theorem Y9 (w0:World):Calls Tryz.prog 51 [].toArray w0 (dZ aa w0 (oe 12:List bV)):=by
 refine Calls.run aa Tryz.func51 ?_
 intro ac β S
 refine S.go 7 .nil fun ac w β S=>S.gx (α:=bV) (d:=5) fun ac w N ae aX S up au d4=>?_
 clear up d4
 refine S.go 10 .nil fun ac w β S=>?_
 refine ek (fun bG ac w=>∃(m:Nat) (acc:List bV) (bZ:_) (b7:_) (u:_) (N:_) (β:_),bG=2-m/\(m<=2)/\(acc=oe (6*m))/\aj Tryz.prog Tryz.f51.ntmps w0 aa u N β ⟨[(1,.v (ab acc.length bZ.1)),(2,.v (R (m:Int)))],[]⟩ ac w/\ai w0 aa u N b7 acc bZ) _ ⟨0,([]:List bV),ae,aX,_,_,_,rfl,cL,(by(first|rfl|assumption)),S.z,au⟩ ?_
 clear S au
 rintro f8 bG g0 ac w ⟨m,acc,bZ,b7,u,N,β,rfl,hm,cD,S,ak⟩
 refine S.rs fun S=>?_
 have lH:acc.length=2*(6*m):=by rw [cD,xc]
 refine S.a8 7 .nil (decide ((m:Int)<2)) (fun ac w β dq fM S=>?_) (fun ac w β dq fM S=>?_)
 ·refine S.go 11 .nil fun ac w β S=>?_
  refine ek (fun bG ac w=>∃(g:Nat) (ve:List bV) (gF:_) (fP:_) (u:_) (N:_) (β:_),bG=2-g/\(g<=2)/\(ve=oe (6*m+3*g))/\aj Tryz.prog Tryz.f51.ntmps w0 aa u N β ⟨[(1,.v (ab ve.length gF.1)),(2,.v (R (m:Int))),(3,.v (R (g:Int)))],[]⟩ ac w/\ai w0 aa u N fP ve gF) _ ⟨0,acc,bZ,b7,_,_,_,rfl,cL,(by(first|rfl|assumption)),S.z,ak⟩ ?_
  clear S ak
  rintro f15 bG aeg ac w ⟨g,ve,gF,fP,u,N,β,rfl,aJ,QB,S,cJ⟩
  refine S.rs fun S=>?_
  have apD:ve.length=2*(6*m+3*g):=by rw [QB,xc]
  refine S.a8 7 .nil (decide ((g:Int)<2)) (fun ac w β j7 q_ S=>?_) (fun ac w β j7 q_ S=>?_)
  ·refine S.go 11 .nil fun ac w β S=>?_
   refine ek (fun bG ac w=>∃(p:Nat) (tg:List bV) (ie:_) (jH:_) (u:_) (N:_) (β:_),bG=3-p/\(p<=3)/\(tg=oe (6*m+3*g+p))/\aj Tryz.prog Tryz.f51.ntmps w0 aa u N β ⟨[(1,.v (ab tg.length ie.1)),(2,.v (R (m:Int))),(3,.v (R (g:Int))),(4,.v (R (p:Int)))],[]⟩ ac w/\ai w0 aa u N jH tg ie) _ ⟨0,ve,gF,fP,_,_,_,rfl,cL,(by(first|rfl|assumption)),S.z,cJ⟩ ?_
   clear S cJ
   rintro f22 bG IZ ac w ⟨p,tg,ie,jH,u,N,β,rfl,a2,H4,S,gS⟩
   refine S.rs fun S=>?_
   have apE:tg.length=2*(6*m+3*g+p):=by rw [H4,xc]
   refine S.a8 7 .nil (decide ((p:Int)<3)) (fun ac w β fR ra S=>?_) (fun ac w β fR ra S=>?_)
   ·refine S.go 19 (.cons (w3 (x:=3) (y:=(g:Int)) ⟨by omega,by omega⟩) (.cons (cO (p:Int) (3*(g:Int))) (.cons (dY (s:=Instr.build 32 [(0,R 2),(1,R (m:Int)),(2,R (g:Int)),(3,R (p:Int)),(4,R ((p:Int)+(3*(g:Int)))),(5,R 3)].toArray) (v:= .agg [R 2,R (m:Int),R (g:Int),R (p:Int),R ((p:Int)+(3*(g:Int))),R 3].toArray) (fun w=>by kernel_rfl)) (.cons (dY (s:=Instr.build 32 [(0,R 3),(1,R (m:Int)),(2,R (g:Int)),(3,R (p:Int))].toArray) (v:= .agg [R 3,R (m:Int),R (g:Int),R (p:Int),R 0,R 0].toArray) (fun w=>by kernel_rfl)) .nil)))) fun ac w β S=>S.qH ([(⟨2,(m:Int),(g:Int),(p:Int),((p:Int)+(3*(g:Int))),3⟩:bV),(⟨3,(m:Int),(g:Int),(p:Int),0,0⟩:bV)]:List bV) () (d:=31) (List.forall_mem_cons.2 ⟨fun _=>(show dv (⟨2,(m:Int),(g:Int),(p:Int),((p:Int)+(3*(g:Int))),3⟩:bV) from⟨(show aq 2 from⟨by decide,by decide⟩),(show aq (m:Int) from⟨by omega,by omega⟩),(show aq (g:Int) from⟨by omega,by omega⟩),(show aq (p:Int) from⟨by omega,by omega⟩),(show aq ((p:Int)+(3*(g:Int))) from⟨by omega,by omega⟩),(show aq 3 from⟨by decide,by decide⟩)⟩),List.forall_mem_cons.2 ⟨fun _=>(show dv (⟨3,(m:Int),(g:Int),(p:Int),0,0⟩:bV) from⟨(show aq 3 from⟨by decide,by decide⟩),(show aq (m:Int) from⟨by omega,by omega⟩),(show aq (g:Int) from⟨by omega,by omega⟩),(show aq (p:Int) from⟨by omega,by omega⟩),(show aq 0 from⟨by decide,by decide⟩),(show aq 0 from⟨by decide,by decide⟩)⟩),List.forall_mem_nil _⟩⟩) (show 2<=4194304 by decide) fun ac w N EL qI S up eo d29=>?_
    replace gS:=gS.up up
    clear up d29
    have ans:([(⟨2,(m:Int),(g:Int),(p:Int),((p:Int)+(3*(g:Int))),3⟩:bV),(⟨3,(m:Int),(g:Int),(p:Int),0,0⟩:bV)]:List bV).length<=4194304:=ag.le eo.al
    refine S.kj (α:=bV) gS eo.al (fun _ _ h=>h) (by':=48) (d:=32) (lx:=tg.length) (ly:=([(⟨2,(m:Int),(g:Int),(p:Int),((p:Int)+(3*(g:Int))),3⟩:bV),(⟨3,(m:Int),(g:Int),(p:Int),0,0⟩:bV)]:List bV).length) rfl rfl (show _<=4194304 by simp only [List.length_append,List.length_cons,List.length_nil];omega) fun ac w N n0 nI S up gr d34=>?_
    clear up d34
    refine S.ge 9 (.cons (cO (p:Int) 1) .nil) f22 fun ac w β S=>IZ.of (3-(p+1)) _ _ (by omega) ⟨p+1,(tg++([(⟨2,(m:Int),(g:Int),(p:Int),((p:Int)+(3*(g:Int))),3⟩:bV),(⟨3,(m:Int),(g:Int),(p:Int),0,0⟩:bV)]:List bV)),n0,nI,_,_,_,rfl,?_,?_,S.z,gr⟩
    ·exact dn
    ·clear S;exact Xe H4 (by omega) (by omega) (by omega)
   refine S.ge 12 (.cons (cO (g:Int) 1) .nil) f15 fun ac w β S=>aeg.of (2-(g+1)) _ _ (by omega) ⟨g+1,tg,ie,jH,_,_,_,rfl,?_,?_,S.z,gS⟩
   ·exact dn
   ·clear S;(rw [H4];congr 1;omega)
  refine S.ge 12 (.cons (cO (m:Int) 1) .nil) f8 fun ac w β S=>g0.of (2-(m+1)) _ _ (by omega) ⟨m+1,ve,gF,fP,_,_,_,rfl,?_,?_,S.z,cJ⟩
  ·exact dn
  ·clear S;(rw [QB];congr 1;omega)
 refine S.aP 13 .nil [ab acc.length bZ.1] fun ac w β S=>?_
 exact cT S (show oe 12=acc by clear S;(rw [cD];congr 1;omega)) rfl ak
theorem YZ (w0:World) (cF:List d_) (cX:af d_) (G F:aw) (q:af eW) (hc:jm cF cX G F w0 q):Calls Tryz.prog 115 [aM q.1.b (q.1.off+0*3)].toArray w0 (lZ cF cX G F q w0 (fun(r:eM)=>True)):=by
 refine Calls.run F Tryz.func115 ?_
 intro ac β S
 have aF:=hc.aF
 refine S.go 8 .nil fun ac w β S=>S.dS (d:=5) aF (gK w cF cX G F q (S.dL aF) 4 (show aq 4 from⟨by decide,by decide⟩)) fun ac w N cb eP cR S dU up eY d5 cy=>?_
 replace aF:=cy
 clear up d5
 have i7:aq cb:=eY.own
 have Kl:=i7.b9;have Km:=i7.hi
 refine S.go 1 .nil fun ac w β S=>S.dS (d:=7) aF (zy w cF cX G F q (S.dL aF) 4 (show aq 4 from⟨by decide,by decide⟩)) fun ac w N eS oO mY S rb up fa d14 cy=>?_
 replace aF:=cy
 clear up d14
 refine S.bs 12 (.cons (dY (s:=Instr.build 81 [(0,R cb),(2,B (!eS))].toArray) (v:= .agg [R cb,R 0,B (!eS)].toArray) (fun w=>by kernel_rfl)) .nil) (!eS) (fun ac w β lf S=>?_) (fun ac w β lf S=>?_)
 ·have j7:=cw lf
  refine S.a8 5 .nil (cb != 2) (fun ac w β h2 tP S=>?_) (fun ac w β h2 tP S=>?_)
  ·refine S.go 1 .nil fun ac w β S=>S.dS (d:=19) aF (zy w cF cX G F q (S.dL aF) 2 (show aq 2 from⟨by decide,by decide⟩)) fun ac w N alT jO hR S z5 up bY d24 cy=>?_
   replace aF:=cy
   clear up d24
   refine S.bs 3 .nil alT (fun ac w β iV S=>?_) (fun ac w β iV S=>?_)
   ·refine S.go 3 .nil fun ac w β S=>S.dS (d:=22) aF (gK w cF cX G F q (S.dL aF) 256 (show aq 256 from⟨by decide,by decide⟩)) fun ac w N MH gv hS S xT up fh d31 cy=>?_
    replace aF:=cy
    clear up d31
    have i33:aq MH:=fh.own
    have SU:=i33.b9;have SV:=i33.hi
    refine S.aP 11 .nil [GT.val (⟨cb,MH,(!eS)⟩:eM) ()] fun ac w β S=>?_
    exact fY (F1:=aa) (p:=()) S (show True by clear S;trivial) rfl ⟨(show hC (⟨cb,MH,(!eS)⟩:eM) from⟨i7,i33⟩),fun _ h=>False.elim h,fun _ h=>False.elim h⟩ (fun b h _=>False.elim h) aF
   refine S.aP 10 .nil [GT.val (⟨cb,0,(!eS)⟩:eM) ()] fun ac w β S=>?_
   exact fY (F1:=aa) (p:=()) S (show True by clear S;trivial) rfl ⟨(show hC (⟨cb,0,(!eS)⟩:eM) from⟨i7,(show aq 0 from⟨by decide,by decide⟩)⟩),fun _ h=>False.elim h,fun _ h=>False.elim h⟩ (fun b h _=>False.elim h) aF
  refine S.aP 15 .nil [GT.val (⟨cb,0,(!eS)⟩:eM) ()] fun ac w β S=>?_
  exact fY (F1:=aa) (p:=()) S (show True by clear S;trivial) rfl ⟨(show hC (⟨cb,0,(!eS)⟩:eM) from⟨i7,(show aq 0 from⟨by decide,by decide⟩)⟩),fun _ h=>False.elim h,fun _ h=>False.elim h⟩ (fun b h _=>False.elim h) aF
 have re:=cl lf
 refine S.aP 20 .nil [GT.val (⟨cb,0,(!eS)⟩:eM) ()] fun ac w β S=>?_
 exact fY (F1:=aa) (p:=()) S (show True by clear S;trivial) rfl ⟨(show hC (⟨cb,0,(!eS)⟩:eM) from⟨i7,(show aq 0 from⟨by decide,by decide⟩)⟩),fun _ h=>False.elim h,fun _ h=>False.elim h⟩ (fun b h _=>False.elim h) aF
theorem Gk (w0:World) (cF:List d_) (cX:af d_) (G F:aw) (q:af eW) (hc:jm cF cX G F w0 q):Calls Tryz.prog 52 [aM q.1.b (q.1.off+0*3)].toArray w0 (lZ cF cX G F q w0 (fun(r:bV)=>True)):=by
 refine Calls.run F Tryz.func52 ?_
 intro ac β S
 have aF:=hc.aF
 refine S.go 8 .nil fun ac w β S=>S.dS (d:=6) aF (gK w cF cX G F q (S.dL aF) 2 (show aq 2 from⟨by decide,by decide⟩)) fun ac w N cb eP cR S dU up eY d5 cy=>?_
 replace aF:=cy
 clear up d5
 have i7:aq cb:=eY.own
 have Kl:=i7.b9;have Km:=i7.hi
 refine S.go 1 .nil fun ac w β S=>S.dS (d:=8) aF (gK w cF cX G F q (S.dL aF) 2 (show aq 2 from⟨by decide,by decide⟩)) fun ac w N eS oO mY S rb up fa d14 cy=>?_
 replace aF:=cy
 clear up d14
 have i16:aq eS:=fa.own
 have aqv:=i16.b9;have aqy:=i16.hi
 refine S.go 9 (.cons (dY (s:=Instr.build 32 [(1,R cb),(2,R eS)].toArray) (v:= .agg [R 0,R cb,R eS,R 0,R 0,R 0].toArray) (fun w=>by kernel_rfl)) .nil) fun ac w β S=>S.dS (d:=11) aF (gK w cF cX G F q (S.dL aF) 24 (show aq 24 from⟨by decide,by decide⟩)) fun ac w N jR sX u4 S fR up ll d23 cy=>?_
 replace aF:=cy
 clear up d23
 have i25:aq jR:=ll.own
 have Kf:=i25.b9;have Kg:=i25.hi
 refine S.a8 10 .nil (jR==0) (fun ac w β fo p_ S=>?_) (fun ac w β fo p_ S=>?_)
 ·refine S.go 13 .nil fun ac w β S=>S.dS (d:=18) aF (gK w cF cX G F q (S.dL aF) 4 (show aq 4 from⟨by decide,by decide⟩)) fun ac w N wO n0 nI S nm up gr d34 cy=>?_
  replace aF:=cy
  clear up d34
  have i36:aq wO:=gr.own
  have SW:=i36.b9;have Kh:=i36.hi
  refine S.go 7 .nil fun ac w β S=>S.dS (d:=21) aF (gK w cF cX G F q (S.dL aF) 8 (show aq 8 from⟨by decide,by decide⟩)) fun ac w N wP Uf oW S sj up kc d43 cy=>?_
  replace aF:=cy
  clear up d43
  have i45:aq wP:=kc.own
  have afZ:=i45.b9;have Ki:=i45.hi
  refine S.go 6 .nil fun ac w β S=>S.qH ([3,3,1,2]:List Int) () (d:=24) (List.forall_mem_cons.2 ⟨fun _=>(show aq 3 from⟨by decide,by decide⟩),List.forall_mem_cons.2 ⟨fun _=>(show aq 3 from⟨by decide,by decide⟩),List.forall_mem_cons.2 ⟨fun _=>(show aq 1 from⟨by decide,by decide⟩),List.forall_mem_cons.2 ⟨fun _=>(show aq 2 from⟨by decide,by decide⟩),List.forall_mem_nil _⟩⟩⟩⟩) (show 4<=4194304 by decide) fun ac w N Ui B2 S up il d51=>?_
  have d52:=J.w d51 aF.sub
  replace aF:=aF.up up
  clear up d51
  refine S.dS (d:=25) aF (r3 w cF cX G F q (S.dL aF) ([3,3,1,2]:List Int) Ui B2 (GT.fb (S.hP il)) (fun b hb=>⟨(S.sep b (il.sub b hb)).1,(J.symm d52) b hb⟩) (by first|omega|decide|(simp;done))) fun ac w N MP pG oY S z7 up kd d57 cy=>?_
  replace aF:=cy
  clear up d57
  have i59:aq MP:=kd.own
  have ara:=i59.b9;have arb:=i59.hi
  refine S.aP 12 .nil [GT.val (⟨2,cb,eS,wO,wP,MP⟩:bV) ()] fun ac w β S=>?_
  exact fY (F1:=aa) (p:=()) S (show True by clear S;trivial) rfl ⟨(show dv (⟨2,cb,eS,wO,wP,MP⟩:bV) from⟨(show aq 2 from⟨by decide,by decide⟩),i7,i16,i36,i45,i59⟩),fun _ h=>False.elim h,fun _ h=>False.elim h⟩ (fun b h _=>False.elim h) aF
 refine S.a8 6 .nil (jR==1) (fun ac w β z_ PK S=>?_) (fun ac w β z_ PK S=>?_)
 ·refine S.go 10 .nil fun ac w β S=>S.dS (d:=18) aF (gK w cF cX G F q (S.dL aF) 4 (show aq 4 from⟨by decide,by decide⟩)) fun ac w N MQ arX B4 S PW up qn d68 cy=>?_
  replace aF:=cy
  clear up d68
  have i70:aq MQ:=qn.own
  have ard:=i70.b9;have af6:=i70.hi
  refine S.go 7 .nil fun ac w β S=>S.dS (d:=21) aF (gK w cF cX G F q (S.dL aF) 8 (show aq 8 from⟨by decide,by decide⟩)) fun ac w N wQ oR y_ S HK up oJ d77 cy=>?_
  replace aF:=cy
  clear up d77
  have i79:aq wQ:=oJ.own
  have af8:=i79.b9;have SZ:=i79.hi
  refine S.go 6 .nil fun ac w β S=>S.qH ([3,3,1,2]:List Int) () (d:=24) (List.forall_mem_cons.2 ⟨fun _=>(show aq 3 from⟨by decide,by decide⟩),List.forall_mem_cons.2 ⟨fun _=>(show aq 3 from⟨by decide,by decide⟩),List.forall_mem_cons.2 ⟨fun _=>(show aq 1 from⟨by decide,by decide⟩),List.forall_mem_cons.2 ⟨fun _=>(show aq 2 from⟨by decide,by decide⟩),List.forall_mem_nil _⟩⟩⟩⟩) (show 4<=4194304 by decide) fun ac w N yP wY S up fq d85=>?_
  have d86:=J.w d85 aF.sub
  replace aF:=aF.up up
  clear up d85
  refine S.dS (d:=25) aF (r3 w cF cX G F q (S.dL aF) ([3,3,1,2]:List Int) yP wY (GT.fb (S.hP fq)) (fun b hb=>⟨(S.sep b (fq.sub b hb)).1,(J.symm d86) b hb⟩) (by first|omega|decide|(simp;done))) fun ac w N MR ar1 Ni S ao0 up Ex d91 cy=>?_
  replace aF:=cy
  clear up d91
  have i93:aq MR:=Ex.own
  have arj:=i93.b9;have ark:=i93.hi
  refine S.aP 12 .nil [GT.val (⟨2,cb,eS,MQ,wQ,MR⟩:bV) ()] fun ac w β S=>?_
  exact fY (F1:=aa) (p:=()) S (show True by clear S;trivial) rfl ⟨(show dv (⟨2,cb,eS,MQ,wQ,MR⟩:bV) from⟨(show aq 2 from⟨by decide,by decide⟩),i7,i16,i70,i79,i93⟩),fun _ h=>False.elim h,fun _ h=>False.elim h⟩ (fun b h _=>False.elim h) aF
 refine S.a8 8 .nil (jR==2) (fun ac w β acZ abY S=>?_) (fun ac w β acZ abY S=>?_)
 ·refine S.go 12 .nil fun ac w β S=>S.dS (d:=32) aF (gK w cF cX G F q (S.dL aF) 4 (show aq 4 from⟨by decide,by decide⟩)) fun ac w N MS ar2 MZ S aoG up KP d102 cy=>?_
  replace aF:=cy
  clear up d102
  have i104:aq MS:=KP.own
  have aqk:=i104.b9;have aql:=i104.hi
  refine S.aP 12 .nil [GT.val (⟨3,cb,eS,MS,0,0⟩:bV) ()] fun ac w β S=>?_
  exact fY (F1:=aa) (p:=()) S (show True by clear S;trivial) rfl ⟨(show dv (⟨3,cb,eS,MS,0,0⟩:bV) from⟨(show aq 3 from⟨by decide,by decide⟩),i7,i16,i104,(show aq 0 from⟨by decide,by decide⟩),(show aq 0 from⟨by decide,by decide⟩)⟩),fun _ h=>False.elim h,fun _ h=>False.elim h⟩ (fun b h _=>False.elim h) aF
 refine S.a8 6 .nil (jR==3) (fun ac w β acf abi S=>?_) (fun ac w β acf abi S=>?_)
 ·refine S.go 9 .nil fun ac w β S=>S.dS (d:=32) aF (gK w cF cX G F q (S.dL aF) 4 (show aq 4 from⟨by decide,by decide⟩)) fun ac w N Mq Bi Vp S aoH up KQ d113 cy=>?_
  replace aF:=cy
  clear up d113
  have i115:aq Mq:=KQ.own
  have aqn:=i115.b9;have aqo:=i115.hi
  refine S.aP 12 .nil [GT.val (⟨3,cb,eS,Mq,0,0⟩:bV) ()] fun ac w β S=>?_
  exact fY (F1:=aa) (p:=()) S (show True by clear S;trivial) rfl ⟨(show dv (⟨3,cb,eS,Mq,0,0⟩:bV) from⟨(show aq 3 from⟨by decide,by decide⟩),i7,i16,i115,(show aq 0 from⟨by decide,by decide⟩),(show aq 0 from⟨by decide,by decide⟩)⟩),fun _ h=>False.elim h,fun _ h=>False.elim h⟩ (fun b h _=>False.elim h) aF
 refine S.a8 7 .nil (jR==4) (fun ac w β acj abk S=>?_) (fun ac w β acj abk S=>?_)
 ·refine S.go 9 .nil fun ac w β S=>S.dS (d:=38) aF (gK w cF cX G F q (S.dL aF) 100 (show aq 100 from⟨by decide,by decide⟩)) fun ac w N Mr arD M1 S aoI up sM d124 cy=>?_
  replace aF:=cy
  clear up d124
  have i126:aq Mr:=sM.own
  have aqp:=i126.b9;have aqq:=i126.hi
  refine S.aP 12 .nil [GT.val (⟨4,cb,eS,Mr,0,0⟩:bV) ()] fun ac w β S=>?_
  exact fY (F1:=aa) (p:=()) S (show True by clear S;trivial) rfl ⟨(show dv (⟨4,cb,eS,Mr,0,0⟩:bV) from⟨(show aq 4 from⟨by decide,by decide⟩),i7,i16,i126,(show aq 0 from⟨by decide,by decide⟩),(show aq 0 from⟨by decide,by decide⟩)⟩),fun _ h=>False.elim h,fun _ h=>False.elim h⟩ (fun b h _=>False.elim h) aF
 refine S.a8 8 .nil (jR==5) (fun ac w β acn abl S=>?_) (fun ac w β acn abl S=>?_)
 ·refine S.aP 17 .nil [GT.val (⟨5,cb,eS,0,0,0⟩:bV) ()] fun ac w β S=>?_
  exact fY (F1:=aa) (p:=()) S (show True by clear S;trivial) rfl ⟨(show dv (⟨5,cb,eS,0,0,0⟩:bV) from⟨(show aq 5 from⟨by decide,by decide⟩),i7,i16,(show aq 0 from⟨by decide,by decide⟩),(show aq 0 from⟨by decide,by decide⟩),(show aq 0 from⟨by decide,by decide⟩)⟩),fun _ h=>False.elim h,fun _ h=>False.elim h⟩ (fun b h _=>False.elim h) aF
 refine S.a8 6 .nil (jR==6) (fun ac w β aco abm S=>?_) (fun ac w β aco abm S=>?_)
 ·refine S.aP 14 .nil [GT.val (⟨5,cb,eS,0,0,0⟩:bV) ()] fun ac w β S=>?_
  exact fY (F1:=aa) (p:=()) S (show True by clear S;trivial) rfl ⟨(show dv (⟨5,cb,eS,0,0,0⟩:bV) from⟨(show aq 5 from⟨by decide,by decide⟩),i7,i16,(show aq 0 from⟨by decide,by decide⟩),(show aq 0 from⟨by decide,by decide⟩),(show aq 0 from⟨by decide,by decide⟩)⟩),fun _ h=>False.elim h,fun _ h=>False.elim h⟩ (fun b h _=>False.elim h) aF
 refine S.a8 7 .nil (jR==7) (fun ac w β acq abn S=>?_) (fun ac w β acq abn S=>?_)
 ·refine S.go 9 .nil fun ac w β S=>S.dS (d:=48) aF (gK w cF cX G F q (S.dL aF) 8 (show aq 8 from⟨by decide,by decide⟩)) fun ac w N Mt Ub M4 S aoJ up KU d139 cy=>?_
  replace aF:=cy
  clear up d139
  have i141:aq Mt:=KU.own
  have aqr:=i141.b9;have aqs:=i141.hi
  refine S.aP 12 .nil [GT.val (⟨6,cb,eS,Mt,0,0⟩:bV) ()] fun ac w β S=>?_
  exact fY (F1:=aa) (p:=()) S (show True by clear S;trivial) rfl ⟨(show dv (⟨6,cb,eS,Mt,0,0⟩:bV) from⟨(show aq 6 from⟨by decide,by decide⟩),i7,i16,i141,(show aq 0 from⟨by decide,by decide⟩),(show aq 0 from⟨by decide,by decide⟩)⟩),fun _ h=>False.elim h,fun _ h=>False.elim h⟩ (fun b h _=>False.elim h) aF
 refine S.a8 7 .nil (jR==8) (fun ac w β Hu Hf S=>?_) (fun ac w β Hu Hf S=>?_)
 ·refine S.go 10 .nil fun ac w β S=>S.dS (d:=54) aF (YZ w cF cX G F q (S.dL aF)) fun ac w N n7 ajm M5 S aoK up KX d150 cy=>?_
  replace aF:=cy
  clear up d150
  have i152:hC n7:=KX.own
  refine S.bs 26 .nil n7.lL (fun ac w β acu S=>?_) (fun ac w β acu S=>?_)
  ·refine S.aP 14 .nil [GT.val (⟨7,cb,eS,n7.bQ,n7.post,1⟩:bV) ()] fun ac w β S=>?_
   exact fY (F1:=aa) (p:=()) S (show True by clear S;trivial) rfl ⟨(show dv (⟨7,cb,eS,n7.bQ,n7.post,1⟩:bV) from⟨(show aq 7 from⟨by decide,by decide⟩),i7,i16,(hC.bQ (d:=n7) i152),(hC.post (d:=n7) i152),(show aq 1 from⟨by decide,by decide⟩)⟩),fun _ h=>False.elim h,fun _ h=>False.elim h⟩ (fun b h _=>False.elim h) aF
  refine S.aP 11 .nil [GT.val (⟨7,cb,eS,n7.bQ,n7.post,0⟩:bV) ()] fun ac w β S=>?_
  exact fY (F1:=aa) (p:=()) S (show True by clear S;trivial) rfl ⟨(show dv (⟨7,cb,eS,n7.bQ,n7.post,0⟩:bV) from⟨(show aq 7 from⟨by decide,by decide⟩),i7,i16,(hC.bQ (d:=n7) i152),(hC.post (d:=n7) i152),(show aq 0 from⟨by decide,by decide⟩)⟩),fun _ h=>False.elim h,fun _ h=>False.elim h⟩ (fun b h _=>False.elim h) aF
 refine S.a8 7 .nil (jR==9) (fun ac w β acv abp S=>?_) (fun ac w β acv abp S=>?_)
 ·refine S.go 10 .nil fun ac w β S=>S.dS (d:=68) aF (gK w cF cX G F q (S.dL aF) 8 (show aq 8 from⟨by decide,by decide⟩)) fun ac w N Mu Uc M7 S aoL up K0 d160 cy=>?_
  replace aF:=cy
  clear up d160
  have i162:aq Mu:=K0.own
  have aqt:=i162.b9;have aqu:=i162.hi
  refine S.go 7 .nil fun ac w β S=>S.dS (d:=71) aF (gK w cF cX G F q (S.dL aF) 4 (show aq 4 from⟨by decide,by decide⟩)) fun ac w N Mv arF amh S PS up ahh d169 cy=>?_
  replace aF:=cy
  clear up d169
  have i171:aq Mv:=ahh.own
  have aqw:=i171.b9;have aqx:=i171.hi
  refine S.go 6 .nil fun ac w β S=>S.dS (d:=74) aF (gK w cF cX G F q (S.dL aF) 100 (show aq 100 from⟨by decide,by decide⟩)) fun ac w N Mx arG Vx S aoM up K2 d178 cy=>?_
  replace aF:=cy
  clear up d178
  have i180:aq Mx:=K2.own
  have aqz:=i180.b9;have aqA:=i180.hi
  refine S.aP 12 .nil [GT.val (⟨8,cb,eS,Mu,Mv,Mx⟩:bV) ()] fun ac w β S=>?_
  exact fY (F1:=aa) (p:=()) S (show True by clear S;trivial) rfl ⟨(show dv (⟨8,cb,eS,Mu,Mv,Mx⟩:bV) from⟨(show aq 8 from⟨by decide,by decide⟩),i7,i16,i162,i171,i180⟩),fun _ h=>False.elim h,fun _ h=>False.elim h⟩ (fun b h _=>False.elim h) aF
 refine S.a8 7 .nil (jR==10) (fun ac w β acy abt S=>?_) (fun ac w β acy abt S=>?_)
 ·refine S.go 9 .nil fun ac w β S=>S.dS (d:=80) aF (gK w cF cX G F q (S.dL aF) 8 (show aq 8 from⟨by decide,by decide⟩)) fun ac w N Mz arH amm S aoN up ahm d189 cy=>?_
  replace aF:=cy
  clear up d189
  have i191:aq Mz:=ahm.own
  have aqB:=i191.b9;have aqC:=i191.hi
  refine S.aP 12 .nil [GT.val (⟨9,cb,eS,Mz,0,0⟩:bV) ()] fun ac w β S=>?_
  exact fY (F1:=aa) (p:=()) S (show True by clear S;trivial) rfl ⟨(show dv (⟨9,cb,eS,Mz,0,0⟩:bV) from⟨(show aq 9 from⟨by decide,by decide⟩),i7,i16,i191,(show aq 0 from⟨by decide,by decide⟩),(show aq 0 from⟨by decide,by decide⟩)⟩),fun _ h=>False.elim h,fun _ h=>False.elim h⟩ (fun b h _=>False.elim h) aF
 refine S.a8 7 .nil (jR==11) (fun ac w β acA abv S=>?_) (fun ac w β acA abv S=>?_)
 ·refine S.aP 14 .nil [GT.val (⟨10,cb,eS,0,0,0⟩:bV) ()] fun ac w β S=>?_
  exact fY (F1:=aa) (p:=()) S (show True by clear S;trivial) rfl ⟨(show dv (⟨10,cb,eS,0,0,0⟩:bV) from⟨(show aq 10 from⟨by decide,by decide⟩),i7,i16,(show aq 0 from⟨by decide,by decide⟩),(show aq 0 from⟨by decide,by decide⟩),(show aq 0 from⟨by decide,by decide⟩)⟩),fun _ h=>False.elim h,fun _ h=>False.elim h⟩ (fun b h _=>False.elim h) aF
 refine S.a8 7 .nil (jR==12) (fun ac w β acC abw S=>?_) (fun ac w β acC abw S=>?_)
 ·refine S.go 10 .nil fun ac w β S=>S.dS (d:=89) aF (gK w cF cX G F q (S.dL aF) 16 (show aq 16 from⟨by decide,by decide⟩)) fun ac w N MA wA B1 S aoP up wi d202 cy=>?_
  replace aF:=cy
  clear up d202
  have i204:aq MA:=wi.own
  have aqD:=i204.b9;have aqE:=i204.hi
  refine S.go 6 .nil fun ac w β S=>S.dS (d:=92) aF (gK w cF cX G F q (S.dL aF) 100 (show aq 100 from⟨by decide,by decide⟩)) fun ac w N MB wB tb S aoQ up pt d211 cy=>?_
  replace aF:=cy
  clear up d211
  have i213:aq MB:=pt.own
  have aqH:=i213.b9;have aqI:=i213.hi
  refine S.aP 12 .nil [GT.val (⟨11,cb,eS,MA,MB,0⟩:bV) ()] fun ac w β S=>?_
  exact fY (F1:=aa) (p:=()) S (show True by clear S;trivial) rfl ⟨(show dv (⟨11,cb,eS,MA,MB,0⟩:bV) from⟨(show aq 11 from⟨by decide,by decide⟩),i7,i16,i204,i213,(show aq 0 from⟨by decide,by decide⟩)⟩),fun _ h=>False.elim h,fun _ h=>False.elim h⟩ (fun b h _=>False.elim h) aF
 refine S.a8 7 .nil (jR==13) (fun ac w β HE Hh S=>?_) (fun ac w β HE Hh S=>?_)
 ·refine S.go 9 .nil fun ac w β S=>S.dS (d:=98) aF (gK w cF cX G F q (S.dL aF) 16 (show aq 16 from⟨by decide,by decide⟩)) fun ac w N MC ajA VB S aoS up K6 d222 cy=>?_
  replace aF:=cy
  clear up d222
  have i224:aq MC:=K6.own
  have aqK:=i224.b9;have aqL:=i224.hi
  refine S.aP 12 .nil [GT.val (⟨12,cb,eS,MC,0,0⟩:bV) ()] fun ac w β S=>?_
  exact fY (F1:=aa) (p:=()) S (show True by clear S;trivial) rfl ⟨(show dv (⟨12,cb,eS,MC,0,0⟩:bV) from⟨(show aq 12 from⟨by decide,by decide⟩),i7,i16,i224,(show aq 0 from⟨by decide,by decide⟩),(show aq 0 from⟨by decide,by decide⟩)⟩),fun _ h=>False.elim h,fun _ h=>False.elim h⟩ (fun b h _=>False.elim h) aF
 refine S.a8 8 .nil (jR==14) (fun ac w β acF abz S=>?_) (fun ac w β acF abz S=>?_)
 ·refine S.go 7 .nil fun ac w β S=>S.qH ([13,13,14,15]:List Int) () (d:=104) (List.forall_mem_cons.2 ⟨fun _=>(show aq 13 from⟨by decide,by decide⟩),List.forall_mem_cons.2 ⟨fun _=>(show aq 13 from⟨by decide,by decide⟩),List.forall_mem_cons.2 ⟨fun _=>(show aq 14 from⟨by decide,by decide⟩),List.forall_mem_cons.2 ⟨fun _=>(show aq 15 from⟨by decide,by decide⟩),List.forall_mem_nil _⟩⟩⟩⟩) (show 4<=4194304 by decide) fun ac w N ajB VD S up Er pW=>?_
  have Gq:=J.w pW aF.sub
  replace aF:=aF.up up
  clear up pW
  refine S.dS (d:=105) aF (r3 w cF cX G F q (S.dL aF) ([13,13,14,15]:List Int) ajB VD (GT.fb (S.hP Er)) (fun b hb=>⟨(S.sep b (Er.sub b hb)).1,(J.symm Gq) b hb⟩) (by first|omega|decide|(simp;done))) fun ac w N MD ajD Fz S aoT up K7 Zy cy=>?_
  replace aF:=cy
  clear up Zy
  have i240:aq MD:=K7.own
  have aqM:=i240.b9;have aqN:=i240.hi
  refine S.go 6 .nil fun ac w β S=>S.dS (d:=108) aF (gK w cF cX G F q (S.dL aF) 8 (show aq 8 from⟨by decide,by decide⟩)) fun ac w N ME arK amw S PT up ahz xj cy=>?_
  replace aF:=cy
  clear up xj
  have JI:aq ME:=ahz.own
  have aqO:=JI.b9;have aqP:=JI.hi
  refine S.aP 12 .nil [GT.val (⟨MD,cb,eS,ME,0,0⟩:bV) ()] fun ac w β S=>?_
  exact fY (F1:=aa) (p:=()) S (show True by clear S;trivial) rfl ⟨(show dv (⟨MD,cb,eS,ME,0,0⟩:bV) from⟨i240,i7,i16,JI,(show aq 0 from⟨by decide,by decide⟩),(show aq 0 from⟨by decide,by decide⟩)⟩),fun _ h=>False.elim h,fun _ h=>False.elim h⟩ (fun b h _=>False.elim h) aF
 refine S.a8 6 .nil (jR==15) (fun ac w β acH abC S=>?_) (fun ac w β acH abC S=>?_)
 ·refine S.go 4 .nil fun ac w β S=>S.qH ([13,13,14,15]:List Int) () (d:=104) (List.forall_mem_cons.2 ⟨fun _=>(show aq 13 from⟨by decide,by decide⟩),List.forall_mem_cons.2 ⟨fun _=>(show aq 13 from⟨by decide,by decide⟩),List.forall_mem_cons.2 ⟨fun _=>(show aq 14 from⟨by decide,by decide⟩),List.forall_mem_cons.2 ⟨fun _=>(show aq 15 from⟨by decide,by decide⟩),List.forall_mem_nil _⟩⟩⟩⟩) (show 4<=4194304 by decide) fun ac w N ajI VM S up Tz xk=>?_
  have xl:=J.w xk aF.sub
  replace aF:=aF.up up
  clear up xk
  refine S.dS (d:=105) aF (r3 w cF cX G F q (S.dL aF) ([13,13,14,15]:List Int) ajI VM (GT.fb (S.hP Tz)) (fun b hb=>⟨(S.sep b (Tz.sub b hb)).1,(J.symm xl) b hb⟩) (by first|omega|decide|(simp;done))) fun ac w N MF arM amz S PU up ahC xp cy=>?_
  replace aF:=cy
  clear up xp
  have JJ:aq MF:=ahC.own
  have aqQ:=JJ.b9;have aqR:=JJ.hi
  refine S.go 6 .nil fun ac w β S=>S.dS (d:=108) aF (gK w cF cX G F q (S.dL aF) 8 (show aq 8 from⟨by decide,by decide⟩)) fun ac w N MG arP M_ S aoU up Es Gx cy=>?_
  replace aF:=cy
  clear up Gx
  have JK:aq MG:=Es.own
  have aqS:=JK.b9;have aqT:=JK.hi
  refine S.aP 12 .nil [GT.val (⟨MF,cb,eS,MG,0,0⟩:bV) ()] fun ac w β S=>?_
  exact fY (F1:=aa) (p:=()) S (show True by clear S;trivial) rfl ⟨(show dv (⟨MF,cb,eS,MG,0,0⟩:bV) from⟨JJ,i7,i16,JK,(show aq 0 from⟨by decide,by decide⟩),(show aq 0 from⟨by decide,by decide⟩)⟩),fun _ h=>False.elim h,fun _ h=>False.elim h⟩ (fun b h _=>False.elim h) aF
 refine S.a8 7 .nil (jR==16) (fun ac w β acI abF S=>?_) (fun ac w β acI abF S=>?_)
 ·refine S.go 4 .nil fun ac w β S=>S.qH ([16,17]:List Int) () (d:=113) (List.forall_mem_cons.2 ⟨fun _=>(show aq 16 from⟨by decide,by decide⟩),List.forall_mem_cons.2 ⟨fun _=>(show aq 17 from⟨by decide,by decide⟩),List.forall_mem_nil _⟩⟩) (show 2<=4194304 by decide) fun ac w N ajM VS S up TA OI=>?_
  have xr:=J.w OI aF.sub
  replace aF:=aF.up up
  clear up OI
  refine S.dS (d:=114) aF (r3 w cF cX G F q (S.dL aF) ([16,17]:List Int) ajM VS (GT.fb (S.hP TA)) (fun b hb=>⟨(S.sep b (TA.sub b hb)).1,(J.symm xr) b hb⟩) (by first|omega|decide|(simp;done))) fun ac w N MJ arQ amF S aoV up ahP tw cy=>?_
  replace aF:=cy
  clear up tw
  have JL:aq MJ:=ahP.own
  have aqU:=JL.b9;have aqV:=JL.hi
  refine S.go 6 .nil fun ac w β S=>S.dS (d:=117) aF (gK w cF cX G F q (S.dL aF) 4 (show aq 4 from⟨by decide,by decide⟩)) fun ac w N ML arR amH S aoW up ahR CI cy=>?_
  replace aF:=cy
  clear up CI
  have JM:aq ML:=ahR.own
  have aqW:=JM.b9;have aqX:=JM.hi
  refine S.aP 12 .nil [GT.val (⟨MJ,cb,eS,ML,0,0⟩:bV) ()] fun ac w β S=>?_
  exact fY (F1:=aa) (p:=()) S (show True by clear S;trivial) rfl ⟨(show dv (⟨MJ,cb,eS,ML,0,0⟩:bV) from⟨JL,i7,i16,JM,(show aq 0 from⟨by decide,by decide⟩),(show aq 0 from⟨by decide,by decide⟩)⟩),fun _ h=>False.elim h,fun _ h=>False.elim h⟩ (fun b h _=>False.elim h) aF
 refine S.aP 14 .nil [GT.val (⟨1,cb,eS,0,0,0⟩:bV) ()] fun ac w β S=>?_
 exact fY (F1:=aa) (p:=()) S (show True by clear S;trivial) rfl ⟨(show dv (⟨1,cb,eS,0,0,0⟩:bV) from⟨(show aq 1 from⟨by decide,by decide⟩),i7,i16,(show aq 0 from⟨by decide,by decide⟩),(show aq 0 from⟨by decide,by decide⟩),(show aq 0 from⟨by decide,by decide⟩)⟩),fun _ h=>False.elim h,fun _ h=>False.elim h⟩ (fun b h _=>False.elim h) aF
theorem Y7 (w0:World) (cF:List d_) (cX:af d_) (G F:aw) (q:af eW) (hc:jm cF cX G F w0 q) (lk:Int) (RD:aq lk) (jh:0<=lk/\lk<=1000):Calls Tryz.prog 23 [aM q.1.b (q.1.off+0*3),R lk].toArray w0 (lZ cF cX G F q w0 (fun(r:List bV)=>r.length<=24+lk.toNat)):=by
 refine Calls.run F Tryz.func23 ?_
 intro ac β S
 have aF:=hc.aF
 have ap2:=RD.b9;have apv:=RD.hi
 refine S.go 7 .nil fun ac w β S=>S.gx (α:=bV) (d:=7) fun ac w N ae aX S up au d4=>?_
 have d5:=J.w d4 aF.sub
 replace aF:=aF.up up
 clear up d4
 refine S.go 7 .nil fun ac w β S=>S.dS (d:=9) aF (zy w cF cX G F q (S.dL aF) 5 (show aq 5 from⟨by decide,by decide⟩)) fun ac w N lv uR eE S gp up a6 d10 cy=>?_
 replace au:=au.bp (J.symm d5) up
 replace aF:=cy
 clear up d10
 refine S.bs 3 .nil (!lv) (fun ac w β eU S=>?_) (fun ac w β eU S=>?_)
 ·have ni:=cw eU
  refine S.go 2 .nil fun ac w β S=>S.ct (r:=oe 12) (d:=11) (Y9 w) fun ac w N lp kv S up dd d17=>?_
  have d18:=J.w d17 aF.sub
  replace aF:=aF.up up
  clear up d17
  refine S.go 10 .nil fun ac w β S=>?_
  refine ek (fun bG ac w=>∃(k:Nat) (acc:List bV) (ie:_) (jH:_) (u:_) (N:_) (β:_),bG=lk.toNat-k/\(k<=lk.toNat)/\(acc.length<=24+k)/\aj Tryz.prog Tryz.f23.ntmps w0 F u N β ⟨[(0,.v (aM q.1.b (q.1.off+0*3))),(1,.v (R lk)),(5,.v (ab acc.length ie.1)),(6,.v (R (k:Int)))],[]⟩ ac w/\ai w0 F u N jH acc ie/\iJ cF cX G w0 F u N F q/\J jH F) _ ⟨0,(oe 12),lp,kv,_,_,_,rfl,cL,(by(first|omega|(rw [xc];omega)|(simp;done))),S.z,dd,aF,(J.symm d18)⟩ ?_
  clear S dd aF
  rintro f23 bG ael ac w ⟨k,acc,ie,jH,u,N,β,rfl,hk,hl,S,gS,aF,d22⟩
  refine S.rs fun S=>?_
  refine S.go 7 (.cons (cO lk 1) .nil) fun ac w β S=>S.dS (d:=16) aF (gK w cF cX G F q (S.dL aF) (lk+1) ⟨by omega,by omega⟩) fun ac w N Vf EL qI S Dh up eo d29 cy=>?_
  replace gS:=gS.bp d22 up
  replace aF:=cy
  clear up d29
  have i31:aq Vf:=eo.own
  have afY:=i31.b9;have aqY:=i31.hi
  refine S.a8 3 .nil (decide ((k:Int)<Vf)) (fun ac w β tV Hj S=>?_) (fun ac w β tV Hj S=>?_)
  ·refine S.go 8 .nil fun ac w β S=>S.dS (d:=22) aF (Gk w cF cX G F q (S.dL aF)) fun ac w N MM mU qJ S nQ up wk d40 cy=>?_
   replace gS:=gS.bp d22 up
   replace aF:=cy
   clear up d40
   have i42:dv MM:=wk.own
   refine S.hB (α:=bV) (x:=MM) (p:=()) (F:=aa) i42 (fun b h=>False.elim h) (fun b h=>False.elim h) (d:=23) fun ac w N mo lW S up fu d46=>?_
   replace gS:=gS.up up
   replace aF:=aF.up up
   clear up d46
   refine S.kj (α:=bV) gS fu.al (fun _ _ h=>h) (by':=48) (d:=24) (lx:=acc.length) (ly:=1) rfl rfl (show _<=4194304 by simp only [List.length_append,List.length_cons,List.length_nil];omega) fun ac w N qu oX S up hr d52=>?_
   have d53:=d52 _ (J.symm d22) aF.sub
   replace aF:=aF.bp (J.symm d22) up
   clear up d52
   refine S.ge 9 (.cons (cO (k:Int) 1) .nil) f23 fun ac w β S=>ael.of (lk.toNat-(k+1)) _ _ (by omega) ⟨k+1,(acc++[MM]),qu,oX,_,_,_,rfl,?_,?_,S.z,hr,aF,(J.symm d53)⟩
   ·exact dn
   ·clear S;(simp;omega)
  refine S.aP 13 .nil [ab acc.length ie.1] fun ac w β S=>?_
  exact fY S (show acc.length<=24+lk.toNat by clear S;omega) rfl gS d22 aF
 have PV:=cl eU
 refine S.go 10 .nil fun ac w β S=>?_
 refine ek (fun bG ac w=>∃(k:Nat) (acc:List bV) (yM:_) (u7:_) (u:_) (N:_) (β:_),bG=lk.toNat-k/\(k<=lk.toNat)/\(acc.length<=24+k)/\aj Tryz.prog Tryz.f23.ntmps w0 F u N β ⟨[(0,.v (aM q.1.b (q.1.off+0*3))),(1,.v (R lk)),(5,.v (ab acc.length yM.1)),(6,.v (R (k:Int)))],[]⟩ ac w/\ai w0 F u N u7 acc yM/\iJ cF cX G w0 F u N F q/\J u7 F) _ ⟨0,([]:List bV),ae,aX,_,_,_,rfl,cL,(by(first|omega|(rw [xc];omega)|(simp;done))),S.z,au,aF,(J.symm d5)⟩ ?_
 clear S au aF
 rintro f60 bG aes ac w ⟨k,acc,yM,u7,u,N,β,rfl,hk,hl,S,iF,aF,d59⟩
 refine S.rs fun S=>?_
 refine S.go 7 (.cons (cO lk 1) .nil) fun ac w β S=>S.dS (d:=16) aF (gK w cF cX G F q (S.dL aF) (lk+1) ⟨by omega,by omega⟩) fun ac w N y2 akh Wl S acT up pA d66 cy=>?_
 replace iF:=iF.bp d59 up
 replace aF:=cy
 clear up d66
 have i68:aq y2:=pA.own
 have Kj:=i68.b9;have Kk:=i68.hi
 refine S.a8 3 .nil (decide ((k:Int)<y2)) (fun ac w β Aa z2 S=>?_) (fun ac w β Aa z2 S=>?_)
 ·refine S.go 8 .nil fun ac w β S=>S.dS (d:=22) aF (Gk w cF cX G F q (S.dL aF)) fun ac w N wQ oR y_ S HK up oJ d77 cy=>?_
  replace iF:=iF.bp d59 up
  replace aF:=cy
  clear up d77
  have i79:dv wQ:=oJ.own
  refine S.hB (α:=bV) (x:=wQ) (p:=()) (F:=aa) i79 (fun b h=>False.elim h) (fun b h=>False.elim h) (d:=23) fun ac w N Bl Wm S up oK d83=>?_
  replace iF:=iF.up up
  replace aF:=aF.up up
  clear up d83
  refine S.kj (α:=bV) iF oK.al (fun _ _ h=>h) (by':=48) (d:=24) (lx:=acc.length) (ly:=1) rfl rfl (show _<=4194304 by simp only [List.length_append,List.length_cons,List.length_nil];omega) fun ac w N aki Nh S up rC d89=>?_
  have d90:=d89 _ (J.symm d59) aF.sub
  replace aF:=aF.bp (J.symm d59) up
  clear up d89
  refine S.ge 9 (.cons (cO (k:Int) 1) .nil) f60 fun ac w β S=>aes.of (lk.toNat-(k+1)) _ _ (by omega) ⟨k+1,(acc++[wQ]),aki,Nh,_,_,_,rfl,?_,?_,S.z,rC,aF,(J.symm d90)⟩
  ·exact dn
  ·clear S;(simp;omega)
 refine S.aP 13 .nil [ab acc.length yM.1] fun ac w β S=>?_
 exact fY S (show acc.length<=24+lk.toNat by clear S;omega) rfl iF d59 aF
theorem Y5 (w0:World) (cF:List d_) (cX:af d_) (G F:aw) (q:af eW) (hc:jm cF cX G F w0 q):Calls Tryz.prog 53 [aM q.1.b (q.1.off+0*3)].toArray w0 (lZ cF cX G F q w0 (fun(r:Int)=>True)):=by
 refine Calls.run F Tryz.func53 ?_
 intro ac β S
 have aF:=hc.aF
 refine S.go 8 .nil fun ac w β S=>S.qH ([0,0,0,1,1,2,(-1),9223372036854775807]:List Int) () (d:=4) (List.forall_mem_cons.2 ⟨fun _=>(show aq 0 from⟨by decide,by decide⟩),List.forall_mem_cons.2 ⟨fun _=>(show aq 0 from⟨by decide,by decide⟩),List.forall_mem_cons.2 ⟨fun _=>(show aq 0 from⟨by decide,by decide⟩),List.forall_mem_cons.2 ⟨fun _=>(show aq 1 from⟨by decide,by decide⟩),List.forall_mem_cons.2 ⟨fun _=>(show aq 1 from⟨by decide,by decide⟩),List.forall_mem_cons.2 ⟨fun _=>(show aq 2 from⟨by decide,by decide⟩),List.forall_mem_cons.2 ⟨fun _=>(show aq (-1) from⟨by decide,by decide⟩),List.forall_mem_cons.2 ⟨fun _=>(show aq 9223372036854775807 from⟨by decide,by decide⟩),List.forall_mem_nil _⟩⟩⟩⟩⟩⟩⟩⟩) (show 8<=4194304 by decide) fun ac w N ae aX S up au d4=>?_
 have d5:=J.w d4 aF.sub
 replace aF:=aF.up up
 clear up d4
 refine S.dS (d:=5) aF (r3 w cF cX G F q (S.dL aF) ([0,0,0,1,1,2,(-1),9223372036854775807]:List Int) ae aX (GT.fb (S.hP au)) (fun b hb=>⟨(S.sep b (au.sub b hb)).1,(J.symm d5) b hb⟩) (by first|omega|decide|(simp;done))) fun ac w N lv uR eE S gp up a6 d10 cy=>?_
 replace aF:=cy
 clear up d10
 have i12:aq lv:=a6.own
 have SQ:=i12.b9;have Ee:=i12.hi
 refine S.aP 4 .nil [R lv] fun ac w β S=>?_
 exact fY (F1:=aa) (p:=()) S (show True by clear S;trivial) rfl ⟨i12,fun _ h=>False.elim h,fun _ h=>False.elim h⟩ (fun b h _=>False.elim h) aF
theorem Y8 (w0:World) (cF:List d_) (cX:af d_) (G F:aw) (q:af eW) (hc:jm cF cX G F w0 q):Calls Tryz.prog 25 [aM q.1.b (q.1.off+0*3)].toArray w0 (lZ cF cX G F q w0 (fun(r:bV)=>True)):=by
 refine Calls.run F Tryz.func25 ?_
 intro ac β S
 have aF:=hc.aF
 refine S.go 8 .nil fun ac w β S=>S.dS (d:=5) aF (Gk w cF cX G F q (S.dL aF)) fun ac w N cb eP cR S dU up eY d5 cy=>?_
 replace aF:=cy
 clear up d5
 have i7:dv cb:=eY.own
 refine S.go 8 .nil fun ac w β S=>S.dS (d:=7) aF (gK w cF cX G F q (S.dL aF) 10 (show aq 10 from⟨by decide,by decide⟩)) fun ac w N BY hg jS S ni up ft d12 cy=>?_
 replace aF:=cy
 clear up d12
 have i14:aq BY:=ft.own
 have afT:=i14.b9;have Kd:=i14.hi
 refine S.a8 9 .nil (BY==0) (fun ac w β j7 q_ S=>?_) (fun ac w β j7 q_ S=>?_)
 ·refine S.go 3 .nil fun ac w β S=>S.dS (d:=11) aF (gK w cF cX G F q (S.dL aF) 20 (show aq 20 from⟨by decide,by decide⟩)) fun ac w N jR sX u4 S fR up ll d23 cy=>?_
  replace aF:=cy
  clear up d23
  have i25:aq jR:=ll.own
  have Kf:=i25.b9;have Kg:=i25.hi
  refine S.aP 13 (.cons (pI jR 1) .nil) [GT.val (⟨(jR-1),cb.m,cb.g,cb.x,cb.y,cb.z⟩:bV) ()] fun ac w β S=>?_
  exact fY (F1:=aa) (p:=()) S (show True by clear S;trivial) rfl ⟨(show dv (⟨(jR-1),cb.m,cb.g,cb.x,cb.y,cb.z⟩:bV) from⟨(show aq (jR-1) from⟨by omega,by omega⟩),(dv.m (d:=cb) i7),(dv.g (d:=cb) i7),(dv.x (d:=cb) i7),(dv.y (d:=cb) i7),(dv.z (d:=cb) i7)⟩),fun _ h=>False.elim h,fun _ h=>False.elim h⟩ (fun b h _=>False.elim h) aF
 refine S.a8 7 .nil (BY==1) (fun ac w β fo p_ S=>?_) (fun ac w β fo p_ S=>?_)
 ·refine S.go 3 .nil fun ac w β S=>S.dS (d:=17) aF (Y5 w cF cX G F q (S.dL aF)) fun ac w N wO n0 nI S nm up gr d34 cy=>?_
  replace aF:=cy
  clear up d34
  have i36:aq wO:=gr.own
  have SW:=i36.b9;have Kh:=i36.hi
  refine S.aP 12 .nil [GT.val (⟨cb.kind,wO,cb.g,cb.x,cb.y,cb.z⟩:bV) ()] fun ac w β S=>?_
  exact fY (F1:=aa) (p:=()) S (show True by clear S;trivial) rfl ⟨(show dv (⟨cb.kind,wO,cb.g,cb.x,cb.y,cb.z⟩:bV) from⟨(dv.kind (d:=cb) i7),i36,(dv.g (d:=cb) i7),(dv.x (d:=cb) i7),(dv.y (d:=cb) i7),(dv.z (d:=cb) i7)⟩),fun _ h=>False.elim h,fun _ h=>False.elim h⟩ (fun b h _=>False.elim h) aF
 refine S.a8 7 .nil (BY==2) (fun ac w β rf De S=>?_) (fun ac w β rf De S=>?_)
 ·refine S.go 3 .nil fun ac w β S=>S.qH ([(-1),4,8,16,100,9223372036854775807]:List Int) () (d:=22) (List.forall_mem_cons.2 ⟨fun _=>(show aq (-1) from⟨by decide,by decide⟩),List.forall_mem_cons.2 ⟨fun _=>(show aq 4 from⟨by decide,by decide⟩),List.forall_mem_cons.2 ⟨fun _=>(show aq 8 from⟨by decide,by decide⟩),List.forall_mem_cons.2 ⟨fun _=>(show aq 16 from⟨by decide,by decide⟩),List.forall_mem_cons.2 ⟨fun _=>(show aq 100 from⟨by decide,by decide⟩),List.forall_mem_cons.2 ⟨fun _=>(show aq 9223372036854775807 from⟨by decide,by decide⟩),List.forall_mem_nil _⟩⟩⟩⟩⟩⟩) (show 6<=4194304 by decide) fun ac w N rJ u6 S up oH d44=>?_
  have d45:=J.w d44 aF.sub
  replace aF:=aF.up up
  clear up d44
  refine S.dS (d:=23) aF (r3 w cF cX G F q (S.dL aF) ([(-1),4,8,16,100,9223372036854775807]:List Int) rJ u6 (GT.fb (S.hP oH)) (fun b hb=>⟨(S.sep b (oH.sub b hb)).1,(J.symm d45) b hb⟩) (by first|omega|decide|(simp;done))) fun ac w N MN uP qL S sk up gh d50 cy=>?_
  replace aF:=cy
  clear up d50
  have i52:aq MN:=gh.own
  have af3:=i52.b9;have aq9:=i52.hi
  refine S.aP 12 .nil [GT.val (⟨cb.kind,cb.m,cb.g,MN,cb.y,cb.z⟩:bV) ()] fun ac w β S=>?_
  exact fY (F1:=aa) (p:=()) S (show True by clear S;trivial) rfl ⟨(show dv (⟨cb.kind,cb.m,cb.g,MN,cb.y,cb.z⟩:bV) from⟨(dv.kind (d:=cb) i7),(dv.m (d:=cb) i7),(dv.g (d:=cb) i7),i52,(dv.y (d:=cb) i7),(dv.z (d:=cb) i7)⟩),fun _ h=>False.elim h,fun _ h=>False.elim h⟩ (fun b h _=>False.elim h) aF
 refine S.a8 7 .nil (BY==3) (fun ac w β PV abQ S=>?_) (fun ac w β PV abQ S=>?_)
 ·refine S.go 3 .nil fun ac w β S=>S.qH ([(-1),0,1,4]:List Int) () (d:=28) (List.forall_mem_cons.2 ⟨fun _=>(show aq (-1) from⟨by decide,by decide⟩),List.forall_mem_cons.2 ⟨fun _=>(show aq 0 from⟨by decide,by decide⟩),List.forall_mem_cons.2 ⟨fun _=>(show aq 1 from⟨by decide,by decide⟩),List.forall_mem_cons.2 ⟨fun _=>(show aq 4 from⟨by decide,by decide⟩),List.forall_mem_nil _⟩⟩⟩⟩) (show 4<=4194304 by decide) fun ac w N Bj FB S up lJ d60=>?_
  have d61:=J.w d60 aF.sub
  replace aF:=aF.up up
  clear up d60
  refine S.dS (d:=29) aF (r3 w cF cX G F q (S.dL aF) ([(-1),0,1,4]:List Int) Bj FB (GT.fb (S.hP lJ)) (fun b hb=>⟨(S.sep b (lJ.sub b hb)).1,(J.symm d61) b hb⟩) (by first|omega|decide|(simp;done))) fun ac w N y2 akh Wl S acT up pA d66 cy=>?_
  replace aF:=cy
  clear up d66
  have i68:aq y2:=pA.own
  have Kj:=i68.b9;have Kk:=i68.hi
  refine S.aP 12 .nil [GT.val (⟨cb.kind,cb.m,cb.g,cb.x,cb.y,y2⟩:bV) ()] fun ac w β S=>?_
  exact fY (F1:=aa) (p:=()) S (show True by clear S;trivial) rfl ⟨(show dv (⟨cb.kind,cb.m,cb.g,cb.x,cb.y,y2⟩:bV) from⟨(dv.kind (d:=cb) i7),(dv.m (d:=cb) i7),(dv.g (d:=cb) i7),(dv.x (d:=cb) i7),(dv.y (d:=cb) i7),i68⟩),fun _ h=>False.elim h,fun _ h=>False.elim h⟩ (fun b h _=>False.elim h) aF
 refine S.aP 11 .nil [GT.val cb ()] fun ac w β S=>?_
 exact fY (F1:=aa) (p:=()) S (show True by clear S;trivial) rfl ⟨i7,fun _ h=>False.elim h,fun _ h=>False.elim h⟩ (fun b h _=>False.elim h) aF
theorem Y_ (w0:World) (code:List d_) (iZ:af d_) (mS:br w0 code iZ) (jh:code.length<=1048576):Calls Tryz.prog 13 [ab code.length iZ.1].toArray w0 (zf w0 (fun(s3:List (List (List cE))) (gV:List bV)=>True)):=by
 refine Calls.run aa Tryz.func13 ?_
 intro ac β S
 have Dx:code.length<=4194304:=ag.le mS
 refine S.go 9 .nil fun ac w β S=>S.Nq (d:=8) mS (fun _ h=>h) (Ov w code iZ (S.rd (S.arg mS)) (by omega)) fun ac w N bd aX S up ia d4=>?_
 clear up d4
 refine S.go 6 .nil fun ac w β S=>S.dS (d:=10) ia (Y4 w code iZ (ga w0.heap.size) aX (aB bd ():af eW) (S.dL ia)) fun ac w N Fk e7 ir S dq up bS d9 sP=>?_
 have d11:=J.w d9 ia.sub
 replace ia:=sP
 clear up d9
 have afQ:=ag.le bS.al
 refine S.go 6 .nil fun ac w β S=>S.dS (d:=12) ia (Y7 w code iZ (ga w0.heap.size) aX (aB bd ():af eW) (S.dL ia) 30 (show aq 30 from⟨by decide,by decide⟩) (by omega)) fun ac w N Ms lp kv S h2 up dd d17 sP=>?_
 have d19:=J.w d17 bS.sub
 have d20:=J.w d17 ia.sub
 replace bS:=bS.bp (J.symm d11) up
 replace ia:=sP
 clear up d17
 have aqG:=ag.le dd.al
 refine S.go 7 .nil fun ac w β S=>S.dS (d:=14) ia (zy w code iZ (ga w0.heap.size) aX (aB bd ():af eW) (S.dL ia) 6 (show aq 6 from⟨by decide,by decide⟩)) fun ac w N alU e0 k7 S nj up eI d26 sP=>?_
 replace bS:=bS.bp (J.symm d11) up
 replace dd:=dd.bp (J.symm d20) up
 replace ia:=sP
 clear up d26
 refine S.bs 2 .nil alU (fun ac w β fo S=>?_) (fun ac w β fo S=>?_)
 ·refine S.go 4 .nil fun ac w β S=>S.dS (d:=17) ia (Y8 w code iZ (ga w0.heap.size) aX (aB bd ():af eW) (S.dL ia)) fun ac w N MK fI fZ S tV up eV d33 sP=>?_
  replace bS:=bS.bp (J.symm d11) up
  replace dd:=dd.bp (J.symm d20) up
  replace ia:=sP
  clear up d33
  have i35:dv MK:=eV.own
  refine S.hB (α:=bV) (x:=MK) (p:=()) (F:=aa) i35 (fun b h=>False.elim h) (fun b h=>False.elim h) (d:=18) fun ac w N e6 gy S up gT d39=>?_
  replace bS:=bS.up up
  replace dd:=dd.up up
  clear up d39
  refine S.kj (α:=bV) dd gT.al (fun _ _ h=>h) (by':=48) (d:=19) (lx:=Ms.length) (ly:=1) rfl rfl (show _<=4194304 by simp only [List.length_append,List.length_cons,List.length_nil];omega) fun ac w N kP wW S up pw d45=>?_
  have d46:=d45 _ d19 bS.sub
  replace bS:=bS.bp d19 up
  clear up d45
  refine S.aP 12 .nil [ab Fk.length e7.1,ab (Ms++[MK]).length kP.1] fun ac w β S=>?_
  exact LU S (show True by clear S;trivial) rfl rfl bS pw d46
 refine S.aP 12 .nil [ab Fk.length e7.1,ab Ms.length lp.1] fun ac w β S=>?_
 exact LU S (show True by clear S;trivial) rfl rfl bS dd d19
theorem YG (w0:World) (code:List d_) (iZ:af d_) (mS:br w0 code iZ) (jh:code.length<=1048576):Calls Tryz.prog 5 [ab code.length iZ.1].toArray w0 (zf w0 (fun(s3:List (List (List cE))) (gV:List bV)=>True)):=by
 refine Calls.run aa Tryz.func5 ?_
 intro ac β S
 have Dx:code.length<=4194304:=ag.le mS
 refine S.go 9 .nil fun ac w β S=>S.Np (d:=5) (Y_ w code iZ (S.rd (S.arg mS)) (by omega)) fun ac w N cb pF de lU lN b7 S gp up ak bS d9 d10 d12=>?_
 clear up d9 d10
 have SQ:=ag.le ak.al
 have Ee:=ag.le bS.al
 refine S.aP 7 .nil [ab cb.length pF.1,ab lU.length lN.1] fun ac w β S=>?_
 exact LU S (show True by clear S;trivial) rfl rfl ak bS d12
theorem YH (w0:World) (code:List d_) (iZ:af d_) (mS:br w0 code iZ) (jh:code.length<=1048576):Calls Tryz.prog 6 [ab code.length iZ.1].toArray w0 (B_ w0 (fun(r:List Int)=>r.length=12/\∀j,j<r.length->0<=el r j/\el r j<=9999)):=by
 refine Calls.run aa Tryz.func6 ?_
 intro ac β S
 have Dx:code.length<=4194304:=ag.le mS
 refine S.go 8 .nil fun ac w β S=>S.Nq (d:=7) mS (fun _ h=>h) (Ov w code iZ (S.rd (S.arg mS)) (by omega)) fun ac w N bd aX S up ia d4=>?_
 clear up d4
 refine S.go 5 .nil fun ac w β S=>S.gx (α:=Int) (d:=8) fun ac w N bZ b7 S up ak d8=>?_
 have d9:=J.w d8 ia.sub
 replace ia:=ia.up up
 clear up d8
 refine S.go 10 .nil fun ac w β S=>?_
 refine ek (fun bG ac w=>∃(k:Nat) (acc:List Int) (dH:_) (dy:_) (u:_) (N:_) (β:_),bG=12-k/\(k<=12)/\(acc.length=k)/\(∀j,j<acc.length->0<=el acc j/\el acc j<=9999)/\aj Tryz.prog Tryz.f6.ntmps w0 aa u N β ⟨[(3,.v (aM (aB bd ():af eW).1.b ((aB bd ():af eW).1.off+0*3))),(4,.v (ab acc.length dH.1)),(5,.v (R (k:Int)))],[]⟩ ac w/\ai w0 aa u N dy acc dH/\iJ code iZ (ga w0.heap.size) w0 aa u N aX (aB bd ():af eW)/\J dy aX) _ ⟨0,([]:List Int),bZ,b7,_,_,_,rfl,cL,(by rfl),(by(intro j bJ;exact absurd bJ (Nat.not_lt_zero _))),S.z,ak,ia,(J.symm d9)⟩ ?_
 clear S ak ia
 rintro f14 bG aef ac w ⟨k,acc,dH,dy,u,N,β,rfl,hk,hl,hb,S,aW,ia,d13⟩
 refine S.rs fun S=>?_
 refine S.a8 7 .nil (decide ((k:Int)<12)) (fun ac w β lf o8 S=>?_) (fun ac w β lf o8 S=>?_)
 ·refine S.go 8 .nil fun ac w β S=>S.dS (d:=15) ia (gK w code iZ (ga w0.heap.size) aX (aB bd ():af eW) (S.dL ia) 10000 (show aq 10000 from⟨by decide,by decide⟩)) fun ac w N My ie jH S iC up gS d22 sP=>?_
  replace aW:=aW.bp d13 up
  replace ia:=sP
  clear up d22
  have i24:aq My:=gS.own
  have AO:=i24.b9;have Kf:=i24.hi
  refine S.hB (α:=Int) (x:=My) (p:=()) (F:=aa) i24 (fun b h=>False.elim h) (fun b h=>False.elim h) (d:=16) fun ac w N g2 gW S up hq d30=>?_
  replace aW:=aW.up up
  replace ia:=ia.up up
  clear up d30
  refine S.kj (α:=Int) aW hq.al (fun _ _ h=>h) (by':=8) (d:=17) (lx:=acc.length) (ly:=1) rfl rfl (show _<=4194304 by simp only [List.length_append,List.length_cons,List.length_nil];omega) fun ac w N jj jb S up jy d36=>?_
  have d37:=d36 _ (J.symm d13) ia.sub
  replace ia:=ia.bp (J.symm d13) up
  clear up d36
  refine S.ge 9 (.cons (cO (k:Int) 1) .nil) f14 fun ac w β S=>aef.of (12-(k+1)) _ _ (by omega) ⟨k+1,(acc++[My]),jj,jb,_,_,_,rfl,?_,?_,?_,S.z,jy,ia,(J.symm d37)⟩
  ·exact dn
  ·clear S;(simp;omega)
  ·clear S;exact ai6 hb (by omega)
 refine S.aP 13 .nil [ab acc.length dH.1] fun ac w β S=>?_
 exact akx S (show acc.length=12/\∀j,j<acc.length->0<=el acc j/\el acc j<=9999 by clear S;exact⟨by omega,hb⟩) rfl aW
theorem SH {p:Prop} (h:p:=by clear S;first|rfl|(simp [aS, *];done)|(simp [aS, *];omega)|(simp_all [aS];done)|(simp_all [aS];omega)):p:=h
theorem xf (w0:World) (x:Int) (a:Int) (b:Int):Calls Tryz.prog 16 [R x,R a,R b].toArray w0 (fun e w'=>e= .returned (B (aS x a b))/\bX aa w0 w'):=by
 refine Calls.run aa Tryz.func16 ?_
 intro ac β S
 refine S.a8 11 .nil (decide (x>=a)) (fun ac w β h1 bM S=>?_) (fun ac w β h1 bM S=>?_)
 ·exact S.bb 8 .nil [B (decide (x<=b))] (b4 SH)
 exact S.bb 8 .nil [B false] (b4 SH)
theorem Gi (w0:World) (k:Int):Calls Tryz.prog 7 [R k].toArray w0 (fun e w'=>e= .returned (B (mL k))/\bX aa w0 w'):=by
 refine Calls.run aa Tryz.func7 ?_
 intro ac β S
 exact S.bb 13 (.cons (aY fun w hw=>xf w k 13 17) .nil) [B (aS k 13 17)] (b4 (by clear S;first|rfl|(simp [mL, *];done)|(simp [mL, *];omega)|(simp_all [mL];done)|(simp_all [mL];omega)))
theorem JT {p:Prop} (h:p:=by clear S;((have hb:=Cm n);subst jh oM;unfold b5 at*;(repeat' split at*)<;>omega)):p:=h
theorem F5 (w0:World) (n:Int) (a:Int) (b:Int) (jh:a=0) (oM:b=24):Calls Tryz.prog 55 [R n,R a,R b].toArray w0 (fun e w'=>e= .returned (R ((b5 n 0 24).toNat:Int))/\bX aa w0 w'):=by
 refine Calls.run aa Tryz.func55 ?_
 intro ac β S
 refine S.a8 12 .nil (decide (n<a)) (fun ac w β h1 bM S=>?_) (fun ac w β h1 bM S=>?_)
 ·exact S.bb 14 .nil [R a] (g3 JT)
 refine S.a8 6 .nil (decide (b<a)) (fun ac w β aE ej S=>?_) (fun ac w β aE ej S=>?_)
 ·exact S.bb 8 .nil [R a] (g3 JT)
 exact S.bb 12 .nil [R (if b<n then b else n)] (g3 JT)
theorem zq (w0:World) (fi:Int):Calls Tryz.prog 27 [R fi].toArray w0 (dZ aa w0 ((List.replicate (b5 fi 0 24).toNat (List.replicate 4 (0:Int))):List (List Int))):=by
 refine Calls.run aa Tryz.func27 ?_
 intro ac β S
 refine S.go 7 .nil fun ac w β S=>S.gx (α:=List Int) (d:=5) fun ac w N ae aX S up au d4=>?_
 clear up d4
 refine S.go 10 .nil fun ac w β S=>?_
 refine ek (fun bG ac w=>∃(k:Nat) (acc:List (List Int)) (bZ:_) (b7:_) (u:_) (N:_) (β:_),bG=(b5 fi 0 24).toNat-k/\(k<=(b5 fi 0 24).toNat)/\(acc=List.replicate k (List.replicate 4 (0:Int)))/\aj Tryz.prog Tryz.f27.ntmps w0 aa u N β ⟨[(0,.v (R fi)),(3,.v (ab acc.length bZ.1)),(4,.v (R (k:Int)))],[]⟩ ac w/\ai w0 aa u N b7 acc bZ) _ ⟨0,([]:List (List Int)),ae,aX,_,_,_,rfl,cL,(by rfl),S.z,au⟩ ?_
 clear S au
 rintro f8 bG g0 ac w ⟨k,acc,bZ,b7,u,N,β,rfl,hk,cD,S,ak⟩
 refine S.rs fun S=>?_
 have hb:=Cm fi
 have lH:acc.length=k:=by rw [cD,List.length_replicate]
 refine S.a8 9 (.cons (aY fun w hw=>F5 w fi 0 24 (by omega) (by omega)) .nil) (decide ((k:Int)<((b5 fi 0 24).toNat:Int))) (fun ac w β dq fM S=>?_) (fun ac w β dq fM S=>?_)
 ·refine S.go 7 .nil fun ac w β S=>S.rT (α:=Int) (m:=4) (by':=8) (d:=13) (by omega) (show 4<=4194304 by omega) fun ac w N gF fP S up cJ d15=>?_
  have d16:=J.w d15 ak.sub
  replace ak:=ak.up up
  clear up d15
  refine S.hB (α:=List Int) (x:=(List.replicate 4 (GT.dE:Int))) (p:=gF) cJ.own cJ.sub cJ.cU (d:=14) fun ac w N mn lV S up eg d20=>?_
  have d21:=d20 _ d16 ak.sub
  replace ak:=ak.up up
  clear up d20
  refine S.qG (α:=List Int) ak eg d21 (by':=24) (d:=15) (lx:=acc.length) (ly:=1) rfl rfl (show _<=4194304 by simp only [List.length_append,List.length_cons,List.length_nil];omega) fun ac w N nC oa S up c4 d25=>?_
  clear up d25
  refine S.ge 9 (.cons (cO (k:Int) 1) .nil) f8 fun ac w β S=>g0.of ((b5 fi 0 24).toNat-(k+1)) _ _ (by omega) ⟨k+1,(acc++[(List.replicate 4 (GT.dE:Int))]),nC,oa,_,_,_,rfl,?_,?_,S.z,c4⟩
  ·exact dn
  ·clear S;(rw [cD];exact(aku rfl).symm)
 refine S.aP 13 .nil [ab acc.length bZ.1] fun ac w β S=>?_
 exact cT S (show(List.replicate (b5 fi 0 24).toNat (List.replicate 4 (0:Int)))=acc by clear S;(rw [cD,show k=(b5 fi 0 24).toNat by omega])) rfl ak
theorem m5 (w0:World):Calls Tryz.prog 117 [].toArray w0 (fun e w'=>e= .returned (GT.val (⟨-1,0⟩:aA) ())/\bX aa w0 w'):=by
 refine Calls.run aa Tryz.func117 ?_
 intro ac β S
 exact S.bb 12 (.cons (dY (s:=Instr.build 77 [(0,R (-1))].toArray) (v:= .agg [R (-1),R 0].toArray) (fun w=>by kernel_rfl)) .nil) [GT.val (⟨(-1),0⟩:aA) ()] (mq (p:=()) (by clear S;first|rfl|(simp [id, *];done)|(simp [id, *];omega)|(simp_all [id];done)|(simp_all [id];omega)))
theorem YD (w0:World) (x:Int) (y:Int) (jh:x=1) (oM:0<=y) (Ly:y<=24):Calls Tryz.prog 201 [.int .u64 x,.int .u64 y].toArray w0 (fun e w'=>e= .returned (.tuple #[.int .u64 0,.int .u64 y])/\bX aa w0 w'):=by
 refine Calls.run aa Tryz.func201 ?_
 intro ac β S
 exact S.bb 99 (.cons (FP (x:=x) (y:=4294967295)) (.cons (zd (yk:= .u64) (x:=x) (y:=32) (by omega)) (.cons (FP (x:=y) (y:=4294967295)) (.cons (zd (yk:= .u64) (x:=y) (y:=32) (by omega)) (.cons (zc (x:=(dM x 4294967295)) (y:=(dM y 4294967295))) (.cons (zc (x:=(dT x 32)) (y:=(dM y 4294967295))) (.cons (zd (yk:= .u64) (x:=(e1 (dM x 4294967295) (dM y 4294967295))) (y:=32) (by omega)) (.cons (B9 (x:=(e1 (dT x 32) (dM y 4294967295))) (y:=(dT (e1 (dM x 4294967295) (dM y 4294967295)) 32))) (.cons (FP (x:=(h4 (e1 (dT x 32) (dM y 4294967295)) (dT (e1 (dM x 4294967295) (dM y 4294967295)) 32))) (y:=4294967295)) (.cons (zd (yk:= .u64) (x:=(h4 (e1 (dT x 32) (dM y 4294967295)) (dT (e1 (dM x 4294967295) (dM y 4294967295)) 32))) (y:=32) (by omega)) (.cons (zc (x:=(dM x 4294967295)) (y:=(dT y 32))) (.cons (B9 (x:=(dM (h4 (e1 (dT x 32) (dM y 4294967295)) (dT (e1 (dM x 4294967295) (dM y 4294967295)) 32)) 4294967295)) (y:=(e1 (dM x 4294967295) (dT y 32)))) (.cons (zc (x:=(dT x 32)) (y:=(dT y 32))) (.cons (B9 (x:=(e1 (dT x 32) (dT y 32))) (y:=(dT (h4 (e1 (dT x 32) (dM y 4294967295)) (dT (e1 (dM x 4294967295) (dM y 4294967295)) 32)) 32))) (.cons (zd (yk:= .u64) (x:=(h4 (dM (h4 (e1 (dT x 32) (dM y 4294967295)) (dT (e1 (dM x 4294967295) (dM y 4294967295)) 32)) 4294967295) (e1 (dM x 4294967295) (dT y 32)))) (y:=32) (by omega)) (.cons (B9 (x:=(h4 (e1 (dT x 32) (dT y 32)) (dT (h4 (e1 (dT x 32) (dM y 4294967295)) (dT (e1 (dM x 4294967295) (dM y 4294967295)) 32)) 32))) (y:=(dT (h4 (dM (h4 (e1 (dT x 32) (dM y 4294967295)) (dT (e1 (dM x 4294967295) (dM y 4294967295)) 32)) 4294967295) (e1 (dM x 4294967295) (dT y 32))) 32))) (.cons (zc (x:=x) (y:=y)) .nil))))))))))))))))) [.int .u64 (h4 (h4 (e1 (dT x 32) (dT y 32)) (dT (h4 (e1 (dT x 32) (dM y 4294967295)) (dT (e1 (dM x 4294967295) (dM y 4294967295)) 32)) 32)) (dT (h4 (dM (h4 (e1 (dT x 32) (dM y 4294967295)) (dT (e1 (dM x 4294967295) (dM y 4294967295)) 32)) 4294967295) (e1 (dM x 4294967295) (dT y 32))) 32)),.int .u64 (e1 x y)] (lO (congrArg (Value.int .u64) (show(h4 (h4 (e1 (dT x 32) (dT y 32)) (dT (h4 (e1 (dT x 32) (dM y 4294967295)) (dT (e1 (dM x 4294967295) (dM y 4294967295)) 32)) 32)) (dT (h4 (dM (h4 (e1 (dT x 32) (dM y 4294967295)) (dT (e1 (dM x 4294967295) (dM y 4294967295)) 32)) 4294967295) (e1 (dM x 4294967295) (dT y 32))) 32))=0 by clear S;(subst jh;exact agH oM Ly))) (congrArg (Value.int .u64) (show(e1 x y)=y by clear S;(subst jh;exact agI oM Ly))))
theorem YC (w0:World) (x:Int) (y:Int) (jh:x=1) (oM:0<=y) (Ly:y<=24):Calls Tryz.prog 177 [.int .u64 x,.int .u64 y].toArray w0 (fun e w'=>e= .returned (.tuple #[.int .u64 0,.int .u64 y])/\bX aa w0 w'):=by
 refine Calls.run aa Tryz.func177 ?_
 intro ac β S
 exact S.bb 31 (.cons (aY fun w hw=>YD w x y (by omega) (by omega) (by omega)) .nil) [.int .u64 0,.int .u64 y] (lO (congrArg (Value.int .u64) (show 0=0 by clear S;rfl)) (congrArg (Value.int .u64) (show y=y by clear S;rfl)))
theorem YE (w0:World) (x:List aA) (cg:af aA) (hx:br w0 x cg) (count:Nat) (jh:x.length=1) (oM:count<=24):Calls Tryz.prog 116 [ab x.length cg.1,R (count:Int)].toArray w0 (dZ aa w0 ((List.replicate count (el x 0)):List aA)):=by
 refine Calls.run aa Tryz.func116 ?_
 intro ac β S
 have aeK:x.length<=4194304:=ag.le hx
 refine S.a8 12 .nil (decide ((count:Int)<0)) (fun ac w β h1 bM S=>?_) (fun ac w β h1 bM S=>?_)
 ·exfalso;clear S;omega
 refine S.a8 29 (.cons (FN (s:=3) (d:=95) (x:=(x.length:Int)) Tryz.underlying3 Tryz.underlying95 (by omega) (by omega)) (.cons (FN (s:=3) (d:=95) (x:=(count:Int)) Tryz.underlying3 Tryz.underlying95 (by omega) (by omega)) (.cons (aY fun w hw=>YC w (x.length:Int) (count:Int) (by omega) (by omega) (by omega)) .nil))) (decide ((count:Int)>9223372036854775807)) (fun ac w β aE ej S=>?_) (fun ac w β aE ej S=>?_)
 ·exfalso;clear S;omega
 refine S.go 7 (.cons (WA (s:=95) (d:=3) (x:=(count:Int)) Tryz.underlying95 Tryz.underlying3 (by omega) (by omega)) .nil) fun ac w β S=>S.rT (α:=aA) (m:=count) (by':=16) (d:=30) (by omega) (show count<=4194304 by omega) fun ac w N bZ b7 S up ak d8=>?_
 clear up d8
 have aqm:count=(List.replicate count (GT.dE:aA)).length:=(by simp)
 refine S.go 7 .nil fun ac w β S=>S.Vi (d:=33) ak (S.arg hx) (fun _ _ _ _ _ h=>h) count x.length (by simp) rfl fun ac w N aiY S up eR=>?_
 clear up ak
 have afQ:((List.replicate count (GT.dE:aA)).take 0++x.take (min x.length count:Nat)++(List.replicate count (GT.dE:aA)).drop (0+(min x.length count:Nat))).length=(List.replicate count (GT.dE:aA)).length:=vj (by omega) (by omega)
 refine S.go 5 .nil fun ac w β S=>?_
 refine ek (fun bG ac w=>∃(n:Nat) (acc:List aA) (ic:_) (e3:_) (u:_) (N:_) (β:_),bG=count-n/\(n<=count)/\(acc.length=count)/\(0<count->0<n)/\(acc.take n=List.replicate n (el x 0))/\aj Tryz.prog Tryz.f116.ntmps w0 aa u N β ⟨[(7,.v (ab count ic.1)),(8,.v (R (n:Int)))],[]⟩ ac w/\ai w0 aa u N e3 acc ic) _ ⟨(min x.length count:Nat),((List.replicate count (GT.dE:aA)).take 0++x.take (min x.length count:Nat)++(List.replicate count (GT.dE:aA)).drop (0+(min x.length count:Nat))),((bZ.1,aiY):af aA),b7,_,_,_,rfl,(by omega),(by(simp;omega)),(by omega),(by(exact aks jh (by simp))),S.z,eR⟩ ?_
 clear S eR
 rintro f16 bG aeh ac w ⟨n,acc,ic,e3,u,N,β,rfl,bc,hl,h1,bC,S,aT⟩
 refine S.rs fun S=>?_
 refine S.a8 9 .nil (decide ((n:Int)<(count:Int))) (fun ac w β h2 tP S=>?_) (fun ac w β h2 tP S=>?_)
 ·refine S.go 4 .nil fun ac w β S=>?_
  refine dj ?_
  let wS:bw:=⟨[(7,.v (ab count ic.1)),(8,.v (R (n:Int))),(37,.v (B true))],[]⟩
  obtain⟨ba,a_,bg,S,aT⟩:∃ba a_ bg,aj Tryz.prog Tryz.f116.ntmps w0 aa ba a_ bg wS ac w/\ai w0 aa ba a_ e3 acc ic:=⟨_,_,_,S.z,aT⟩
  have afV:((acc.drop n).take (acc.length-n)).length=acc.length-n:=by first|(simp;done)|(simp;omega)
  have SR:(acc.take n).length=n-0:=by first|(simp;done)|(simp;omega)
  refine lT (fun ac w=>∃fI fZ u N β,aj Tryz.prog Tryz.f116.ntmps w0 aa u N β (wS.dl [37] [(7,.v (ab count fI.1)),(8,.v (R ((n:Int)+((min n (acc.length-n:Nat):Nat):Int))))] 0 []) ac w/\ai w0 aa u N fZ (acc.take n++(acc.take n).take (min n (acc.length-n:Nat):Nat)++acc.drop (n+(min n (acc.length-n:Nat):Nat))) fI) ?_ ?_
  ·refine S.df (f:=10) 7 (by kernel_rfl) (by kernel_rfl) fun w S=>?_
   refine S.aI 1 [3,1] [] [(39,.v (ab count ic.1))] .nil fun ac S=>?_
   refine S.aI 2 [3,2] [] [(40,.v (R (n:Int)))] .nil fun ac S=>?_
   refine S.aI 3 [3] [] [(41,.v (ab (acc.length-n:Nat) (ic.1.b8 n 2)))] (.cons (vb aT.al (l:=count) (a:=n) (b:=acc.length) (by omega) (.inr rfl) (.inl ⟨rfl,rfl⟩) (by omega) (by omega) Tryz.underlying66 (by kernel_rfl)) .nil) fun ac S=>?_
   refine S.aI 4 [6,4] [] [(42,.v (ab count ic.1))] .nil fun ac S=>?_
   refine S.aI 5 [6,5] [] [(43,.v (R (n:Int)))] .nil fun ac S=>?_
   refine S.aI 6 [6] [] [(44,.v (ab n (ic.1.b8 0 2)))] (.cons (vb aT.al (l:=count) (a:=0) (b:=n) (by omega) (.inl ⟨rfl,rfl⟩) (.inr rfl) (by omega) (by omega) Tryz.underlying66 (by kernel_rfl)) .nil) fun ac S=>?_
   refine ao.mh fun W aO=>?_
   refine ao.l0 (l':=cc 10 [1,2,3,4,5,6]) (by kernel_rfl) ?_
   have vJ ac w fI fZ u N β (S:aj Tryz.prog Tryz.f116.ntmps w0 aa u N β (wS.dl [37] [(7,.v (ab count fI.1)),(8,.v (R ((n:Int)+((min n (acc.length-n:Nat):Nat):Int))))] 0 []) ac w) (hq:ai w0 aa u N fZ (acc.take n++(acc.take n).take (min n (acc.length-n:Nat):Nat)++acc.drop (n+(min n (acc.length-n:Nat):Nat))) fI):W 0 (cc 10 [0,1,2,3,4,5,6,7,8,9]) ac w:=by
    exact mi aO ⟨rfl,fI,fZ,_,_,_,S.z,hq⟩
   have adt ac w fI fZ u N β (S:aj Tryz.prog Tryz.f116.ntmps w0 aa u N β (wS.dl [37] [(7,.v (ab count fI.1)),(38,.v (R (n:Int))),(45,.v (R ((min n (acc.length-n:Nat):Nat):Int)))] 0 []) ac w) (hq:ai w0 aa u N fZ (acc.take n++(acc.take n).take (min n (acc.length-n:Nat):Nat)++acc.drop (n+(min n (acc.length-n:Nat):Nat))) fI):W 2 (cc 10 [0,1,2,3,4,5,6,7]) ac w:=by
    exact S.alB aO (wS.dl [37] [(7,.v (ab count fI.1)),(8,.v (R ((n:Int)+((min n (acc.length-n:Nat):Nat):Int))))] 0 []) 1 (.cons 8 (cO (n:Int) ((min n (acc.length-n:Nat):Nat):Int)) .nil) fun _ _ _ S=>⟨rfl,fI,fZ,_,_,_,S,hq⟩
   have HY ac w u N β (S:aj Tryz.prog Tryz.f116.ntmps w0 aa u N β (wS.dl [37] [(38,.v (R (n:Int))),(41,.v (ab (acc.length-n:Nat) (ic.1.b8 n 2))),(44,.v (ab n (ic.1.b8 0 2)))] 0 []) ac w) (aT:ai w0 aa u N e3 acc ic) (an:cZ a_ ba N u) (aL:cr wS.ay.length bg β):W 3 (cc 10 [0,1,2,3,4,5,6]) ac w:=by
    refine eJ aO 7 ?_
    have SW:count=acc.length:=(by omega)
    refine id (S.OF (d:=45) aT (show GT.rd bz _ _ (acc.take n) ((ic.1.b8 0 2,fun i=>ic.2 (0+i)):af aA) from pJ aT.al (a:=0) (b:=n) (by omega) (by omega)) (fun _ _ _ _ _ h=>h) n (acc.length-n:Nat) n (by omega) (by omega) (by simp;omega) (by kernel_rfl) fun ac w N aiX S up hO=>?_)
    refine ao.b8 fun bx=>?_
    clear up aT
    have Kh:(acc.take n++(acc.take n).take (min n (acc.length-n:Nat):Nat)++acc.drop (n+(min n (acc.length-n:Nat):Nat))).length=acc.length:=vj (by omega) (by omega)
    exact S.dp aO [] bx fun _ S=>adt _ _ ((ic.1,aiX):af aA) e3 _ _ _ S hO
   rw [aO]
   exact S.dp aO [0] (fun _=>S.Bn) fun _ S=>HY _ _ _ _ _ S aT (fun _ h=>⟨h,rfl⟩) (fun _ _=>rfl)
  clear S aT
  rintro ac w ⟨fI,fZ,u,N,β,S,hq⟩
  refine S.ex fun S=>?_
  refine S.ge 1 .nil f16 fun ac w β S=>aeh.of (count-(n+(min n (acc.length-n):Nat))) _ _ (by omega) ⟨(n+(min n (acc.length-n):Nat)),(acc.take n++(acc.take n).take (min n (acc.length-n:Nat):Nat)++acc.drop (n+(min n (acc.length-n:Nat):Nat))),fI,fZ,_,_,_,rfl,?_,?_,?_,?_,S.z,hq⟩
  ·clear S;omega
  ·clear S;(rw [vj (by omega) (by omega)];exact hl)
  ·clear S;omega
  ·clear S;exact akt (by omega) (by omega) bC
 refine S.aP 13 .nil [ab count ic.1] fun ac w β S=>?_
 exact cT S (show(List.replicate count (el x 0))=acc by clear S;exact(akr hl (by omega) bc bC).symm) (by rw [show count=acc.length from(by omega)];rfl) aT
theorem tq (w0:World) (n:Int):Calls Tryz.prog 56 [R n].toArray w0 (dZ aa w0 ((List.replicate (b5 n 0 24).toNat (⟨-1,0⟩:aA)):List aA)):=by
 refine Calls.run aa Tryz.func56 ?_
 intro ac β S
 have hb:=Cm n
 refine S.go 8 (.cons (aY fun w hw=>m5 w) .nil) fun ac w β S=>S.hB (α:=aA) (x:=(⟨-1,0⟩:aA)) (p:=()) (F:=aa) (show fx ⟨-1,0⟩ from⟨⟨by decide,by decide⟩,⟨by decide,by decide⟩⟩) (fun b h=>False.elim h) (fun b h=>False.elim h) (d:=4) fun ac w N ae aX S up au d4=>?_
 clear up d4
 refine S.go 2 (.cons (aY fun w hw=>F5 w n 0 24 (by omega) (by omega)) .nil) fun ac w β S=>S.ct (r:=(List.replicate (b5 n 0 24).toNat (el ([((⟨-1,0⟩:aA))]) 0))) (d:=7) (YE w ([((⟨-1,0⟩:aA))]) ae (S.rd au.al) (b5 n 0 24).toNat (by first|omega|rfl) (by first|omega|rfl)) fun ac w N bZ b7 S up ak d8=>?_
 clear up d8
 refine S.aP 4 .nil [ab (List.replicate (b5 n 0 24).toNat (el ([((⟨-1,0⟩:aA))]) 0)).length bZ.1] fun ac w β S=>?_
 exact cT S (show(List.replicate (b5 n 0 24).toNat (⟨-1,0⟩:aA))=(List.replicate (b5 n 0 24).toNat (el ([((⟨-1,0⟩:aA))]) 0)) by clear S;rfl) rfl ak
theorem Ok (w0:World) (l:List cE) (pl:af cE) (hl:br w0 l pl):Calls Tryz.prog 118 [ab l.length pl.1].toArray w0 (dZ aa w0 (l:List cE)):=by
 refine Calls.run aa Tryz.func118 ?_
 intro ac β S
 have tZ:l.length<=4194304:=ag.le hl
 refine S.go 7 .nil fun ac w β S=>S.gx (α:=cE) (d:=3) fun ac w N ae aX S up au d4=>?_
 clear up d4
 have xa:l.length<=4194304:=ag.le (S.arg hl)
 refine S.go 1 .nil fun ac w β S=>S.nH (α:=cE) au (S.arg hl) (fun _ _ h=>h) (by':=16) (d:=5) (lx:=0) (ly:=l.length) rfl fun ac w N bZ b7 S up ak d8=>?_
 clear up d8
 refine S.aP 4 .nil [ab l.length bZ.1] fun ac w β S=>?_
 exact cT S (show l=l by clear S;simp) rfl ak
theorem XL (w0:World) (p:List cE) (pp:af cE) (a2:br w0 p pp):Calls Tryz.prog 57 [ab p.length pp.1].toArray w0 (dZ aa w0 (o6 p:az)):=by
 refine Calls.run aa Tryz.func57 ?_
 intro ac β S
 have Rz:p.length<=4194304:=ag.le a2
 refine S.go 8 .nil fun ac w β S=>S.ct (r:=p) (d:=4) (Ok w p pp (S.rd (S.arg a2))) fun ac w N ae aX S up au d4=>?_
 clear up d4
 refine S.ct (r:=(List.replicate (b5 4 0 24).toNat (⟨-1,0⟩:aA))) (d:=5) (tq w 4) fun ac w N bZ b7 S up ak d8=>?_
 have d9:=J.w d8 au.sub
 replace au:=au.up up
 clear up d8
 refine S.ct (r:=(List.replicate (b5 4 0 24).toNat (⟨-1,0⟩:aA))) (d:=6) (tq w 4) fun ac w N dH dy S up aW d13=>?_
 have d14:=J.w d13 au.sub
 have d15:=J.w d13 ak.sub
 replace au:=au.up up
 replace ak:=ak.up up
 clear up d13
 refine S.aP 5 (.cons (dY (s:=Instr.build 102 [(0,ab p.length ae.1),(3,ab (List.replicate (b5 4 0 24).toNat (⟨-1,0⟩:aA)).length bZ.1),(4,ab (List.replicate (b5 4 0 24).toNat (⟨-1,0⟩:aA)).length dH.1)].toArray) (v:= .agg [ab p.length ae.1,R 0,R 0,ab (List.replicate (b5 4 0 24).toNat (⟨-1,0⟩:aA)).length bZ.1,ab (List.replicate (b5 4 0 24).toNat (⟨-1,0⟩:aA)).length dH.1,R 0,R 0,B false,R 0,R 0,R 0,B false,R 0,B false,ab ([]:List Int).length (GT.bL (α:=List Int)).1].toArray) (fun w=>by kernel_rfl)) .nil) [GT.val (⟨p,0,0,(List.replicate (b5 4 0 24).toNat (⟨-1,0⟩:aA)),(List.replicate (b5 4 0 24).toNat (⟨-1,0⟩:aA)),(⟨0,0,false⟩:eM),0,(⟨0,0,false,0⟩:dI),false,([]:List Int)⟩:az) (⟨ae,bZ,dH,(GT.bL (α:=List Int))⟩:dB)] fun ac w β S=>?_
 have dd:=S.hp (α:=Int)
 have ef:=ke (x:=(⟨p,0,0,(List.replicate (b5 4 0 24).toNat (⟨-1,0⟩:aA)),(List.replicate (b5 4 0 24).toNat (⟨-1,0⟩:aA)),(⟨0,0,false⟩:eM),0,(⟨0,0,false,0⟩:dI),false,([]:List Int)⟩:az)) (p:=(⟨ae,bZ,dH,(GT.bL (α:=List Int))⟩:dB)) au ak aW dd d9 d14 (fun b _ h=>False.elim h) d15 (fun b _ h=>False.elim h) (fun b _ h=>False.elim h) (show aq 0 from⟨by decide,by decide⟩) (show aq 0 from⟨by decide,by decide⟩) (show hC (⟨0,0,false⟩:eM) from⟨(show aq 0 from⟨by decide,by decide⟩),(show aq 0 from⟨by decide,by decide⟩)⟩) (show aq 0 from⟨by decide,by decide⟩) (show iu (⟨0,0,false,0⟩:dI) from⟨(show aq 0 from⟨by decide,by decide⟩),(show aq 0 from⟨by decide,by decide⟩),(show aq 0 from⟨by decide,by decide⟩)⟩)
 exact cT S (show o6 p=(⟨p,0,0,(List.replicate (b5 4 0 24).toNat (⟨-1,0⟩:aA)),(List.replicate (b5 4 0 24).toNat (⟨-1,0⟩:aA)),(⟨0,0,false⟩:eM),0,(⟨0,0,false,0⟩:dI),false,([]:List Int)⟩:az) by clear S;(first|rfl|(simp [o6];rfl))) rfl ef
theorem Ya (w0:World) (n:Int):Calls Tryz.prog 58 [R n].toArray w0 (dZ aa w0 (q5 n:bO)):=by
 refine Calls.run aa Tryz.func58 ?_
 intro ac β S
 have hb:=Cm n
 refine S.go 6 .nil fun ac w β S=>?_
 refine dj ?_
 let bf:bw:=⟨[(0,.v (R n)),(2,.p 0 0)],[c2 bO]⟩
 obtain⟨ba,a_,bg,S⟩:∃ba a_ bg,aj Tryz.prog Tryz.f58.ntmps w0 aa ba a_ bg bf ac w:=⟨_,_,_,S.z⟩
 refine lT (fun ac w=>∃bE bI b3 cm u N β,aj Tryz.prog Tryz.f58.ntmps w0 aa u N β (bf.dl [0] [] 1 [(0,[ab (List.replicate (b5 n 0 24).toNat (GT.dE:Bool)).length bE.1,ab (List.replicate (b5 n 0 24).toNat (⟨-1,0⟩:aA)).length b3.1])]) ac w/\ai w0 aa u N bI (List.replicate (b5 n 0 24).toNat (GT.dE:Bool)) bE/\ai w0 aa u N cm (List.replicate (b5 n 0 24).toNat (⟨-1,0⟩:aA)) b3/\J bI cm) ?_ ?_
 ·refine S.df (f:=7) 6 (by kernel_rfl) (by kernel_rfl) fun w S=>?_
  refine S.hm 5 [0,3] [] [(3,.v (R n)),(6,.v (R n))] .nil fun ac S=>?_
  refine ao.mh fun W aO=>?_
  refine ao.l0 (l':=cc 7 [0,3]) (by kernel_rfl) ?_
  have P9 ac w bE bI b3 cm u N β (S:aj Tryz.prog Tryz.f58.ntmps w0 aa u N β (bf.dl [0] [] 1 [(0,[ab (List.replicate (b5 n 0 24).toNat (GT.dE:Bool)).length bE.1,ab (List.replicate (b5 n 0 24).toNat (⟨-1,0⟩:aA)).length b3.1])]) ac w) (ak:ai w0 aa u N bI (List.replicate (b5 n 0 24).toNat (GT.dE:Bool)) bE) (aT:ai w0 aa u N cm (List.replicate (b5 n 0 24).toNat (⟨-1,0⟩:aA)) b3) (d31:J bI cm):W 0 (cc 7 [0,1,2,3,4,5,6]) ac w:=by
   exact mi aO ⟨rfl,bE,bI,b3,cm,_,_,_,S.z,ak,aT,d31⟩
  have vJ ac w bE bI b3 cm u N β (S:aj Tryz.prog Tryz.f58.ntmps w0 aa u N β (bf.dl [0] [(5,.v (ab (List.replicate (b5 n 0 24).toNat (GT.dE:Bool)).length bE.1)),(7,.v (ab (List.replicate (b5 n 0 24).toNat (⟨-1,0⟩:aA)).length b3.1))] 1 []) ac w) (ak:ai w0 aa u N bI (List.replicate (b5 n 0 24).toNat (GT.dE:Bool)) bE) (aT:ai w0 aa u N cm (List.replicate (b5 n 0 24).toNat (⟨-1,0⟩:aA)) b3) (d33:J bI cm) (an:cZ a_ ba N u) (aL:cr bf.ay.length bg β):W 2 (cc 7 [0,1,2,3,4]) ac w:=by
   exact S.hQ aO an aL (bf.dl [0] [] 1 [(0,[ab (List.replicate (b5 n 0 24).toNat (GT.dE:Bool)).length bE.1,ab (List.replicate (b5 n 0 24).toNat (⟨-1,0⟩:aA)).length b3.1])]) 1 (.cons 5 (dY (s:=Instr.build 105 [(0,ab (List.replicate (b5 n 0 24).toNat (GT.dE:Bool)).length bE.1),(1,ab (List.replicate (b5 n 0 24).toNat (⟨-1,0⟩:aA)).length b3.1)].toArray) (v:= .agg [ab (List.replicate (b5 n 0 24).toNat (GT.dE:Bool)).length bE.1,ab (List.replicate (b5 n 0 24).toNat (⟨-1,0⟩:aA)).length b3.1].toArray) (fun w=>by kernel_rfl)) .nil) fun _ _ _ S=>⟨rfl,bE,bI,b3,cm,_,_,_,S,ak,aT,d33⟩
  have HY ac w bE bI u N β (S:aj Tryz.prog Tryz.f58.ntmps w0 aa u N β (bf.dl [0] [(5,.v (ab (List.replicate (b5 n 0 24).toNat (GT.dE:Bool)).length bE.1)),(6,.v (R n))] 1 []) ac w) (ak:ai w0 aa u N bI (List.replicate (b5 n 0 24).toNat (GT.dE:Bool)) bE) (an:cZ a_ ba N u) (aL:cr bf.ay.length bg β):W 3 (cc 7 [0,1,2,3]) ac w:=by
   refine eJ aO 4 ?_
   refine id (S.cH 7 (tq w n) fun ac w N nD k8 S up eO d38=>?_)
   have Q3:=fun b h=>(⟨(up b (an b h).1).1,(up b (an b h).1).2.trans (an b h).2⟩:_/\_)
   refine ao.dA S Q3 aL fun bx=>?_
   have d40:=J.w d38 ak.sub
   replace ak:=ak.up up
   clear up d38
   exact S.dp aO [] bx fun _ S=>vJ _ _ bE bI nD k8 _ _ _ S ak eO d40 Q3 aL
  have adx ac w b3 cm u N β (S:aj Tryz.prog Tryz.f58.ntmps w0 aa u N β (bf.dl [0] [(4,.v (R ((b5 n 0 24).toNat:Int))),(7,.v (ab (List.replicate (b5 n 0 24).toNat (⟨-1,0⟩:aA)).length b3.1))] 1 []) ac w) (aT:ai w0 aa u N cm (List.replicate (b5 n 0 24).toNat (⟨-1,0⟩:aA)) b3) (an:cZ a_ ba N u) (aL:cr bf.ay.length bg β):W 3 (cc 7 [0,1,3,4]) ac w:=by
   refine eJ aO 2 ?_
   refine id (S.make (α:=Bool) (m:=(b5 n 0 24).toNat) (by':=1) (d:=5) (by kernel_rfl) (by omega) (show(b5 n 0 24).toNat<=4194304 by omega) fun ac w N kP wW S up pw d45=>?_)
   have Al:=fun b h=>(⟨(up b (an b h).1).1,(up b (an b h).1).2.trans (an b h).2⟩:_/\_)
   refine ao.dA S Al aL fun bx=>?_
   have d47:=J.w d45 aT.sub
   replace aT:=aT.up up
   clear up d45
   replace S:=S.z (σ':=⟨[(2,.p 0 0),(4,.v (R ((b5 n 0 24).toNat:Int))),(5,.v (ab (List.replicate (b5 n 0 24).toNat (GT.dE:Bool)).length kP.1)),(7,.v (ab (List.replicate (b5 n 0 24).toNat (⟨-1,0⟩:aA)).length b3.1))],[c2 bO]⟩) (by rw [show(List.replicate (b5 n 0 24).toNat (GT.dE:Bool)).length=(b5 n 0 24).toNat from List.length_replicate]<;>kernel_rfl)
   exact S.dp aO [] bx fun _ S=>vJ _ _ kP wW b3 cm _ _ _ S pw aT (J.symm d47) Al aL
  have vK ac w u N β (S:aj Tryz.prog Tryz.f58.ntmps w0 aa u N β (bf.dl [0] [(4,.v (R ((b5 n 0 24).toNat:Int))),(6,.v (R n))] 1 []) ac w) (an:cZ a_ ba N u) (aL:cr bf.ay.length bg β):W 4 (cc 7 [0,1,3]) ac w:=by
   refine jC aO 2 4 ?_ ?_
   ·refine id (S.make (α:=Bool) (m:=(b5 n 0 24).toNat) (by':=1) (d:=5) (by kernel_rfl) (by omega) (show(b5 n 0 24).toNat<=4194304 by omega) fun ac w N qu oX S up hr d52=>?_)
    have x3:=fun b h=>(⟨(up b (an b h).1).1,(up b (an b h).1).2.trans (an b h).2⟩:_/\_)
    refine ao.dA S x3 aL fun bx=>?_
    clear up d52
    replace S:=S.z (σ':=⟨[(2,.p 0 0),(4,.v (R ((b5 n 0 24).toNat:Int))),(5,.v (ab (List.replicate (b5 n 0 24).toNat (GT.dE:Bool)).length qu.1)),(6,.v (R n))],[c2 bO]⟩) (by rw [show(List.replicate (b5 n 0 24).toNat (GT.dE:Bool)).length=(b5 n 0 24).toNat from List.length_replicate]<;>kernel_rfl)
    exact S.dp aO [] bx fun _ S=>HY _ _ qu oX _ _ _ S hr x3 aL
   ·refine id (S.cH 7 (tq w n) fun ac w N pG oY S up kd d57=>?_)
    have Q6:=fun b h=>(⟨(up b (an b h).1).1,(up b (an b h).1).2.trans (an b h).2⟩:_/\_)
    refine ao.dA S Q6 aL fun bx=>?_
    clear up d57
    exact S.dp aO [] bx fun _ S=>adx _ _ pG oY _ _ _ S kd Q6 aL
  have an:cZ a_ ba a_ ba:=fun b h=>⟨h,rfl⟩
  have aL:cr bf.ay.length bg bg:=fun _ _=>rfl
  exact eJ aO 1 (S.fv aO an aL [] (.cons (aY fun w hw=>F5 w n 0 24 (by omega) (by omega)) .nil) fun _ _ _ S bU=>vK _ _ _ _ _ S an bU)
 clear S
 rintro ac w ⟨bE,bI,b3,cm,u,N,β,S,ak,aT,d59⟩
 refine S.ex fun S=>?_
 refine S.aP 2 .nil [GT.val (⟨(List.replicate (b5 n 0 24).toNat (GT.dE:Bool)),(List.replicate (b5 n 0 24).toNat (⟨-1,0⟩:aA))⟩:bO) (⟨bE,b3⟩:hI)] fun ac w β S=>?_
 have aiy:=pD (x:=(⟨(List.replicate (b5 n 0 24).toNat (GT.dE:Bool)),(List.replicate (b5 n 0 24).toNat (⟨-1,0⟩:aA))⟩:bO)) (p:=(⟨bE,b3⟩:hI)) ak aT d59
 exact cT S (show q5 n=(⟨(List.replicate (b5 n 0 24).toNat (GT.dE:Bool)),(List.replicate (b5 n 0 24).toNat (⟨-1,0⟩:aA))⟩:bO) by clear S;(first|rfl|(unfold q5;rw [List.length_replicate];rfl))) rfl aiy
theorem Yb (w0:World) (dz:List (List cE)) (nZ:af (List cE)) (AE:br w0 dz nZ):Calls Tryz.prog 28 [ab dz.length nZ.1].toArray w0 (dZ aa w0 (l7 dz:aZ)):=by
 refine Calls.run aa Tryz.func28 ?_
 intro ac β S
 have apW:dz.length<=4194304:=ag.le AE
 refine S.go 6 .nil fun ac w β S=>?_
 refine dj ?_
 let bf:bw:=⟨[(0,.v (ab dz.length nZ.1)),(2,.p 0 0)],[c2 aZ]⟩
 obtain⟨ba,a_,bg,S⟩:∃ba a_ bg,aj Tryz.prog Tryz.f28.ntmps w0 aa ba a_ bg bf ac w:=⟨_,_,_,S.z⟩
 refine lT (fun ac w=>∃bE bI dW eu b3 cm u N β,aj Tryz.prog Tryz.f28.ntmps w0 aa u N β (bf.dl [] [(3,.p 1 0)] 2 [(1,[ab (List.replicate (b5 8 0 24).toNat (⟨-1,0⟩:aA)).length bE.1,ab (List.replicate (b5 8 0 24).toNat (List.replicate 4 (0:Int))).length dW.1,ab 8 b3.1,ab ([]:List az).length (GT.bL (α:=List az)).1,ab ([]:List Int).length (GT.bL (α:=List Int)).1,R 0,R 0,ab ([]:List bO).length (GT.bL (α:=List bO)).1,R 0])]) ac w/\ai w0 aa u N bI (List.replicate (b5 8 0 24).toNat (⟨-1,0⟩:aA)) bE/\ai w0 aa u N eu (List.replicate (b5 8 0 24).toNat (List.replicate 4 (0:Int))) dW/\ai w0 aa u N cm (List.replicate 8 (GT.dE:Bool)) b3/\J bI eu/\J bI cm/\J eu cm) ?_ ?_
 ·refine S.df (f:=6) 5 (by kernel_rfl) (by kernel_rfl) fun w S=>?_
  refine ao.mh fun W aO=>?_
  refine ao.l0 (l':=cc 6 []) (by kernel_rfl) ?_
  have ao9 ac w bE bI dW eu b3 cm u N β (S:aj Tryz.prog Tryz.f28.ntmps w0 aa u N β (bf.dl [] [(3,.p 1 0)] 2 [(1,[ab (List.replicate (b5 8 0 24).toNat (⟨-1,0⟩:aA)).length bE.1,ab (List.replicate (b5 8 0 24).toNat (List.replicate 4 (0:Int))).length dW.1,ab 8 b3.1,ab ([]:List az).length (GT.bL (α:=List az)).1,ab ([]:List Int).length (GT.bL (α:=List Int)).1,R 0,R 0,ab ([]:List bO).length (GT.bL (α:=List bO)).1,R 0])]) ac w) (ak:ai w0 aa u N bI (List.replicate (b5 8 0 24).toNat (⟨-1,0⟩:aA)) bE) (c4:ai w0 aa u N eu (List.replicate (b5 8 0 24).toNat (List.replicate 4 (0:Int))) dW) (aT:ai w0 aa u N cm (List.replicate 8 (GT.dE:Bool)) b3) (d96:J bI eu) (d97:J bI cm) (d98:J eu cm):W 0 (cc 6 [0,1,2,3,4,5]) ac w:=by
   exact mi aO ⟨rfl,bE,bI,dW,eu,b3,cm,_,_,_,S.z,ak,c4,aT,d96,d97,d98⟩
  have Qj ac w bE bI dW eu b3 cm u N β (S:aj Tryz.prog Tryz.f28.ntmps w0 aa u N β (bf.dl [] [(3,.p 1 0),(6,.v (ab (List.replicate (b5 8 0 24).toNat (⟨-1,0⟩:aA)).length bE.1)),(7,.v (ab (List.replicate (b5 8 0 24).toNat (List.replicate 4 (0:Int))).length dW.1)),(8,.v (ab 8 b3.1))] 2 [(1,c2 aZ)]) ac w) (ak:ai w0 aa u N bI (List.replicate (b5 8 0 24).toNat (⟨-1,0⟩:aA)) bE) (c4:ai w0 aa u N eu (List.replicate (b5 8 0 24).toNat (List.replicate 4 (0:Int))) dW) (aT:ai w0 aa u N cm (List.replicate 8 (GT.dE:Bool)) b3) (d100:J bI eu) (d101:J bI cm) (d102:J eu cm) (an:cZ a_ ba N u) (aL:cr bf.ay.length bg β):W 2 (cc 6 [0,1,2,4]) ac w:=by
   exact S.hQ aO an aL (bf.dl [] [(3,.p 1 0)] 2 [(1,[ab (List.replicate (b5 8 0 24).toNat (⟨-1,0⟩:aA)).length bE.1,ab (List.replicate (b5 8 0 24).toNat (List.replicate 4 (0:Int))).length dW.1,ab 8 b3.1,ab ([]:List az).length (GT.bL (α:=List az)).1,ab ([]:List Int).length (GT.bL (α:=List Int)).1,R 0,R 0,ab ([]:List bO).length (GT.bL (α:=List bO)).1,R 0])]) 1 (.cons 3 (dY (s:=Instr.build 71 [(0,ab (List.replicate (b5 8 0 24).toNat (⟨-1,0⟩:aA)).length bE.1),(1,ab (List.replicate (b5 8 0 24).toNat (List.replicate 4 (0:Int))).length dW.1),(2,ab 8 b3.1)].toArray) (v:= .agg [ab (List.replicate (b5 8 0 24).toNat (⟨-1,0⟩:aA)).length bE.1,ab (List.replicate (b5 8 0 24).toNat (List.replicate 4 (0:Int))).length dW.1,ab 8 b3.1,ab ([]:List az).length (GT.bL (α:=List az)).1,ab ([]:List Int).length (GT.bL (α:=List Int)).1,R 0,R 0,ab ([]:List bO).length (GT.bL (α:=List bO)).1,R 0].toArray) (fun w=>by kernel_rfl)) .nil) fun _ _ _ S=>⟨rfl,bE,bI,dW,eu,b3,cm,_,_,_,S,ak,c4,aT,d100,d101,d102⟩
  have PZ ac w bE bI dW eu b3 cm u N β (S:aj Tryz.prog Tryz.f28.ntmps w0 aa u N β (bf.dl [] [(6,.v (ab (List.replicate (b5 8 0 24).toNat (⟨-1,0⟩:aA)).length bE.1)),(7,.v (ab (List.replicate (b5 8 0 24).toNat (List.replicate 4 (0:Int))).length dW.1)),(8,.v (ab 8 b3.1))] 1 []) ac w) (ak:ai w0 aa u N bI (List.replicate (b5 8 0 24).toNat (⟨-1,0⟩:aA)) bE) (c4:ai w0 aa u N eu (List.replicate (b5 8 0 24).toNat (List.replicate 4 (0:Int))) dW) (aT:ai w0 aa u N cm (List.replicate 8 (GT.dE:Bool)) b3) (d104:J bI eu) (d105:J bI cm) (d106:J eu cm) (an:cZ a_ ba N u) (aL:cr bf.ay.length bg β):W 3 (cc 6 [0,1,2]) ac w:=by
   exact S.hQ aO an aL (bf.dl [] [(3,.p 1 0)] 2 [(1,[ab (List.replicate (b5 8 0 24).toNat (⟨-1,0⟩:aA)).length bE.1,ab (List.replicate (b5 8 0 24).toNat (List.replicate 4 (0:Int))).length dW.1,ab 8 b3.1,ab ([]:List az).length (GT.bL (α:=List az)).1,ab ([]:List Int).length (GT.bL (α:=List Int)).1,R 0,R 0,ab ([]:List bO).length (GT.bL (α:=List bO)).1,R 0])]) 2 (.cons 3 (dY (s:=Instr.build 71 [(0,ab (List.replicate (b5 8 0 24).toNat (⟨-1,0⟩:aA)).length bE.1),(1,ab (List.replicate (b5 8 0 24).toNat (List.replicate 4 (0:Int))).length dW.1),(2,ab 8 b3.1)].toArray) (v:= .agg [ab (List.replicate (b5 8 0 24).toNat (⟨-1,0⟩:aA)).length bE.1,ab (List.replicate (b5 8 0 24).toNat (List.replicate 4 (0:Int))).length dW.1,ab 8 b3.1,ab ([]:List az).length (GT.bL (α:=List az)).1,ab ([]:List Int).length (GT.bL (α:=List Int)).1,R 0,R 0,ab ([]:List bO).length (GT.bL (α:=List bO)).1,R 0].toArray) (fun w=>by kernel_rfl)) .nil) fun _ _ _ S=>⟨rfl,bE,bI,dW,eu,b3,cm,_,_,_,S,ak,c4,aT,d104,d105,d106⟩
  have P0 ac w bE bI dW eu u N β (S:aj Tryz.prog Tryz.f28.ntmps w0 aa u N β (bf.dl [] [(3,.p 1 0),(6,.v (ab (List.replicate (b5 8 0 24).toNat (⟨-1,0⟩:aA)).length bE.1)),(7,.v (ab (List.replicate (b5 8 0 24).toNat (List.replicate 4 (0:Int))).length dW.1))] 2 [(1,c2 aZ)]) ac w) (ak:ai w0 aa u N bI (List.replicate (b5 8 0 24).toNat (⟨-1,0⟩:aA)) bE) (c4:ai w0 aa u N eu (List.replicate (b5 8 0 24).toNat (List.replicate 4 (0:Int))) dW) (d108:J bI eu) (an:cZ a_ ba N u) (aL:cr bf.ay.length bg β):W 3 (cc 6 [0,1,4]) ac w:=by
   refine eJ aO 2 ?_
   refine id (S.make (α:=Bool) (m:=8) (by':=1) (d:=8) (by kernel_rfl) (by omega) (show 8<=4194304 by omega) fun ac w N ajc Vo S up ag5 d112=>?_)
   have QI:=fun b h=>(⟨(up b (an b h).1).1,(up b (an b h).1).2.trans (an b h).2⟩:_/\_)
   refine ao.dA S QI aL fun bx=>?_
   have d114:=J.w d112 ak.sub
   have d115:=J.w d112 c4.sub
   replace ak:=ak.up up
   replace c4:=c4.up up
   clear up d112
   exact S.dp aO [] bx fun _ S=>Qj _ _ bE bI dW eu ajc Vo _ _ _ S ak c4 ag5 d108 d114 d115 QI aL
  have HP ac w bE bI b3 cm u N β (S:aj Tryz.prog Tryz.f28.ntmps w0 aa u N β (bf.dl [] [(3,.p 1 0),(6,.v (ab (List.replicate (b5 8 0 24).toNat (⟨-1,0⟩:aA)).length bE.1)),(8,.v (ab 8 b3.1))] 2 [(1,c2 aZ)]) ac w) (ak:ai w0 aa u N bI (List.replicate (b5 8 0 24).toNat (⟨-1,0⟩:aA)) bE) (aT:ai w0 aa u N cm (List.replicate 8 (GT.dE:Bool)) b3) (d117:J bI cm) (an:cZ a_ ba N u) (aL:cr bf.ay.length bg β):W 3 (cc 6 [0,2,4]) ac w:=by
   refine eJ aO 1 ?_
   refine id (S.cH 7 (zq w 8) fun ac w N aji Fu S up KS d121=>?_)
   have Ai:=fun b h=>(⟨(up b (an b h).1).1,(up b (an b h).1).2.trans (an b h).2⟩:_/\_)
   refine ao.dA S Ai aL fun bx=>?_
   have d123:=J.w d121 ak.sub
   have d124:=J.w d121 aT.sub
   replace ak:=ak.up up
   replace aT:=aT.up up
   clear up d121
   exact S.dp aO [] bx fun _ S=>Qj _ _ bE bI aji Fu b3 cm _ _ _ S ak KS aT d123 d117 (J.symm d124) Ai aL
  have P1 ac w bE bI dW eu u N β (S:aj Tryz.prog Tryz.f28.ntmps w0 aa u N β (bf.dl [] [(6,.v (ab (List.replicate (b5 8 0 24).toNat (⟨-1,0⟩:aA)).length bE.1)),(7,.v (ab (List.replicate (b5 8 0 24).toNat (List.replicate 4 (0:Int))).length dW.1))] 1 []) ac w) (ak:ai w0 aa u N bI (List.replicate (b5 8 0 24).toNat (⟨-1,0⟩:aA)) bE) (c4:ai w0 aa u N eu (List.replicate (b5 8 0 24).toNat (List.replicate 4 (0:Int))) dW) (d126:J bI eu) (an:cZ a_ ba N u) (aL:cr bf.ay.length bg β):W 4 (cc 6 [0,1]) ac w:=by
   refine jC aO 2 4 ?_ (S.fv aO an aL [] .nil fun _ _ _ S bU=>P0 _ _ bE bI dW eu _ _ _ S ak c4 d126 an bU)
   refine id (S.make (α:=Bool) (m:=8) (by':=1) (d:=8) (by kernel_rfl) (by omega) (show 8<=4194304 by omega) fun ac w N LF M3 S up KT d130=>?_)
   have QJ:=fun b h=>(⟨(up b (an b h).1).1,(up b (an b h).1).2.trans (an b h).2⟩:_/\_)
   refine ao.dA S QJ aL fun bx=>?_
   have d132:=J.w d130 ak.sub
   have d133:=J.w d130 c4.sub
   replace ak:=ak.up up
   replace c4:=c4.up up
   clear up d130
   exact S.dp aO [] bx fun _ S=>PZ _ _ bE bI dW eu LF M3 _ _ _ S ak c4 KT d126 d132 d133 QJ aL
  have Dj ac w bE bI b3 cm u N β (S:aj Tryz.prog Tryz.f28.ntmps w0 aa u N β (bf.dl [] [(6,.v (ab (List.replicate (b5 8 0 24).toNat (⟨-1,0⟩:aA)).length bE.1)),(8,.v (ab 8 b3.1))] 1 []) ac w) (ak:ai w0 aa u N bI (List.replicate (b5 8 0 24).toNat (⟨-1,0⟩:aA)) bE) (aT:ai w0 aa u N cm (List.replicate 8 (GT.dE:Bool)) b3) (d135:J bI cm) (an:cZ a_ ba N u) (aL:cr bf.ay.length bg β):W 4 (cc 6 [0,2]) ac w:=by
   refine jC aO 1 4 ?_ (S.fv aO an aL [] .nil fun _ _ _ S bU=>HP _ _ bE bI b3 cm _ _ _ S ak aT d135 an bU)
   refine id (S.cH 7 (zq w 8) fun ac w N Ub M4 S up KU d139=>?_)
   have QL:=fun b h=>(⟨(up b (an b h).1).1,(up b (an b h).1).2.trans (an b h).2⟩:_/\_)
   refine ao.dA S QL aL fun bx=>?_
   have d141:=J.w d139 ak.sub
   have d142:=J.w d139 aT.sub
   replace ak:=ak.up up
   replace aT:=aT.up up
   clear up d139
   exact S.dp aO [] bx fun _ S=>PZ _ _ bE bI Ub M4 b3 cm _ _ _ S ak KU aT d141 d135 (J.symm d142) QL aL
  have P2 ac w bE bI u N β (S:aj Tryz.prog Tryz.f28.ntmps w0 aa u N β (bf.dl [] [(3,.p 1 0),(6,.v (ab (List.replicate (b5 8 0 24).toNat (⟨-1,0⟩:aA)).length bE.1))] 2 [(1,c2 aZ)]) ac w) (ak:ai w0 aa u N bI (List.replicate (b5 8 0 24).toNat (⟨-1,0⟩:aA)) bE) (an:cZ a_ ba N u) (aL:cr bf.ay.length bg β):W 4 (cc 6 [0,4]) ac w:=by
   refine jC aO 1 2 ?_ ?_
   ·refine id (S.cH 7 (zq w 8) fun ac w N EJ wU S up KW d147=>?_)
    have QM:=fun b h=>(⟨(up b (an b h).1).1,(up b (an b h).1).2.trans (an b h).2⟩:_/\_)
    refine ao.dA S QM aL fun bx=>?_
    have d149:=J.w d147 ak.sub
    replace ak:=ak.up up
    clear up d147
    exact S.dp aO [] bx fun _ S=>P0 _ _ bE bI EJ wU _ _ _ S ak KW d149 QM aL
   ·refine id (S.make (α:=Bool) (m:=8) (by':=1) (d:=8) (by kernel_rfl) (by omega) (show 8<=4194304 by omega) fun ac w N ajn M6 S up KY d153=>?_)
    have QN:=fun b h=>(⟨(up b (an b h).1).1,(up b (an b h).1).2.trans (an b h).2⟩:_/\_)
    refine ao.dA S QN aL fun bx=>?_
    have d155:=J.w d153 ak.sub
    replace ak:=ak.up up
    clear up d153
    exact S.dp aO [] bx fun _ S=>HP _ _ bE bI ajn M6 _ _ _ S ak KY d155 QN aL
  have P3 ac w b3 cm u N β (S:aj Tryz.prog Tryz.f28.ntmps w0 aa u N β (bf.dl [] [(3,.p 1 0),(8,.v (ab 8 b3.1))] 2 [(1,c2 aZ)]) ac w) (aT:ai w0 aa u N cm (List.replicate 8 (GT.dE:Bool)) b3) (an:cZ a_ ba N u) (aL:cr bf.ay.length bg β):W 4 (cc 6 [2,4]) ac w:=by
   refine eJ aO 0 ?_
   refine id (S.cH 6 (tq w 8) fun ac w N Uc M7 S up K0 d160=>?_)
   have QO:=fun b h=>(⟨(up b (an b h).1).1,(up b (an b h).1).2.trans (an b h).2⟩:_/\_)
   refine ao.dA S QO aL fun bx=>?_
   have d162:=J.w d160 aT.sub
   replace aT:=aT.up up
   clear up d160
   exact S.dp aO [] bx fun _ S=>HP _ _ Uc M7 b3 cm _ _ _ S K0 aT (J.symm d162) QO aL
  have adf ac w bE bI u N β (S:aj Tryz.prog Tryz.f28.ntmps w0 aa u N β (bf.dl [] [(6,.v (ab (List.replicate (b5 8 0 24).toNat (⟨-1,0⟩:aA)).length bE.1))] 1 []) ac w) (ak:ai w0 aa u N bI (List.replicate (b5 8 0 24).toNat (⟨-1,0⟩:aA)) bE) (an:cZ a_ ba N u) (aL:cr bf.ay.length bg β):W 5 (cc 6 [0]) ac w:=by
   refine wu aO 1 2 4 ?_ ?_ (S.fv aO an aL [] .nil fun _ _ _ S bU=>P2 _ _ bE bI _ _ _ S ak an bU)
   ·refine id (S.cH 7 (zq w 8) fun ac w N wz wV S up oG d167=>?_)
    have QP:=fun b h=>(⟨(up b (an b h).1).1,(up b (an b h).1).2.trans (an b h).2⟩:_/\_)
    refine ao.dA S QP aL fun bx=>?_
    have d169:=J.w d167 ak.sub
    replace ak:=ak.up up
    clear up d167
    exact S.dp aO [] bx fun _ S=>P1 _ _ bE bI wz wV _ _ _ S ak oG d169 QP aL
   ·refine id (S.make (α:=Bool) (m:=8) (by':=1) (d:=8) (by kernel_rfl) (by omega) (show 8<=4194304 by omega) fun ac w N LH Fx S up K1 d173=>?_)
    have Aj:=fun b h=>(⟨(up b (an b h).1).1,(up b (an b h).1).2.trans (an b h).2⟩:_/\_)
    refine ao.dA S Aj aL fun bx=>?_
    have d175:=J.w d173 ak.sub
    replace ak:=ak.up up
    clear up d173
    exact S.dp aO [] bx fun _ S=>Dj _ _ bE bI LH Fx _ _ _ S ak K1 d175 Aj aL
  have HR ac w b3 cm u N β (S:aj Tryz.prog Tryz.f28.ntmps w0 aa u N β (bf.dl [] [(8,.v (ab 8 b3.1))] 1 []) ac w) (aT:ai w0 aa u N cm (List.replicate 8 (GT.dE:Bool)) b3) (an:cZ a_ ba N u) (aL:cr bf.ay.length bg β):W 5 (cc 6 [2]) ac w:=by
   refine jC aO 0 4 ?_ (S.fv aO an aL [] .nil fun _ _ _ S bU=>P3 _ _ b3 cm _ _ _ S aT an bU)
   refine id (S.cH 6 (tq w 8) fun ac w N ajr y6 S up wh d180=>?_)
   have QQ:=fun b h=>(⟨(up b (an b h).1).1,(up b (an b h).1).2.trans (an b h).2⟩:_/\_)
   refine ao.dA S QQ aL fun bx=>?_
   have d182:=J.w d180 aT.sub
   replace aT:=aT.up up
   clear up d180
   exact S.dp aO [] bx fun _ S=>Dj _ _ ajr y6 b3 cm _ _ _ S wh aT (J.symm d182) QQ aL
  have adi ac w u N β (S:aj Tryz.prog Tryz.f28.ntmps w0 aa u N β (bf.dl [] [(3,.p 1 0)] 2 [(1,c2 aZ)]) ac w) (an:cZ a_ ba N u) (aL:cr bf.ay.length bg β):W 5 (cc 6 [4]) ac w:=by
   refine jC aO 0 2 ?_ ?_
   ·refine id (S.cH 6 (tq w 8) fun ac w N aju M8 S up K4 d187=>?_)
    have QR:=fun b h=>(⟨(up b (an b h).1).1,(up b (an b h).1).2.trans (an b h).2⟩:_/\_)
    refine ao.dA S QR aL fun bx=>?_
    clear up d187
    exact S.dp aO [] bx fun _ S=>P2 _ _ aju M8 _ _ _ S K4 QR aL
   ·refine id (S.make (α:=Bool) (m:=8) (by':=1) (d:=8) (by kernel_rfl) (by omega) (show 8<=4194304 by omega) fun ac w N ajv Vz S up ahn d192=>?_)
    have QS:=fun b h=>(⟨(up b (an b h).1).1,(up b (an b h).1).2.trans (an b h).2⟩:_/\_)
    refine ao.dA S QS aL fun bx=>?_
    clear up d192
    exact S.dp aO [] bx fun _ S=>P3 _ _ ajv Vz _ _ _ S ahn QS aL
  have an:cZ a_ ba a_ ba:=fun b h=>⟨h,rfl⟩
  have aL:cr bf.ay.length bg bg:=fun _ _=>rfl
  refine wu aO 0 2 4 ?_ ?_ (S.fv aO an aL [] .nil fun _ _ _ S bU=>adi _ _ _ _ _ S an bU)
  ·refine id (S.cH 6 (tq w 8) fun ac w N ajx VA S up aho d197=>?_)
   have QT:=fun b h=>(⟨(up b (an b h).1).1,(up b (an b h).1).2.trans (an b h).2⟩:_/\_)
   refine ao.dA S QT aL fun bx=>?_
   clear up d197
   exact S.dp aO [] bx fun _ S=>adf _ _ ajx VA _ _ _ S aho QT aL
  ·refine id (S.make (α:=Bool) (m:=8) (by':=1) (d:=8) (by kernel_rfl) (by omega) (show 8<=4194304 by omega) fun ac w N wA B1 S up wi d202=>?_)
   have QU:=fun b h=>(⟨(up b (an b h).1).1,(up b (an b h).1).2.trans (an b h).2⟩:_/\_)
   refine ao.dA S QU aL fun bx=>?_
   clear up d202
   exact S.dp aO [] bx fun _ S=>HR _ _ wA B1 _ _ _ S wi QU aL
 clear S
 rintro ac w ⟨bE,bI,dW,eu,b3,cm,u,N,β,S,ak,c4,aT,d204,d205,d206⟩
 refine S.ex fun S=>?_
 have aqF:(dz.take (if 2<(dz.length:Int) then 2 else(dz.length:Int)).toNat).length=(if 2<(dz.length:Int) then 2 else(dz.length:Int)).toNat-0:=by first|(simp;done)|(simp;omega)
 refine S.go 14 (.cons (vb (hi:=some (R (if 2<(dz.length:Int) then 2 else(dz.length:Int)))) (S.arg AE) (l:=dz.length) (a:=0) (b:=(if 2<(dz.length:Int) then 2 else(dz.length:Int)).toNat) rfl (.inl ⟨rfl,rfl⟩) (.inr (congrArg (fun z=>some (R z)) (show(if 2<(dz.length:Int) then 2 else(dz.length:Int))=(((if 2<(dz.length:Int) then 2 else(dz.length:Int)).toNat:Nat):Int) by omega))) (by omega) (by omega) Tryz.underlying65 (by kernel_rfl)) .nil) fun ac w β S=>?_
 have Tw:=S.hp (α:=az)
 have Tx:=S.hp (α:=bO)
 refine ek (fun bG ac w=>∃(k:Nat) (gs:List az) (fT:List bO) (wB:_) (tb:_) (sY:_) (tc:_) (u:_) (N:_) (β:_),bG=dz.length-k/\(k<=dz.length)/\(k<=2)/\(gs=((dz.take 2).take k).map o6)/\(fT=((dz.take 2).take k).map (fun _=>q5 4))/\aj Tryz.prog Tryz.f28.ntmps w0 aa u N β ⟨[(2,.p 0 0),(3,.p 1 0),(14,.v (ab (if 2<(dz.length:Int) then 2 else(dz.length:Int)).toNat (nZ.1.b8 0 1))),(15,.v (R ((if 2<(dz.length:Int) then 2 else(dz.length:Int)).toNat:Int))),(16,.v (R (k:Int)))],[c2 aZ,[ab (List.replicate (b5 8 0 24).toNat (⟨-1,0⟩:aA)).length bE.1,ab (List.replicate (b5 8 0 24).toNat (List.replicate 4 (0:Int))).length dW.1,ab 8 b3.1,ab gs.length wB.1,ab ([]:List Int).length (GT.bL (α:=List Int)).1,R 0,R 0,ab fT.length sY.1,R 0]]⟩ ac w/\ai w0 aa u N tb gs wB/\ai w0 aa u N tc fT sY/\ai w0 aa u N bI (List.replicate (b5 8 0 24).toNat (⟨-1,0⟩:aA)) bE/\ai w0 aa u N eu (List.replicate (b5 8 0 24).toNat (List.replicate 4 (0:Int))) dW/\ai w0 aa u N cm (List.replicate 8 (GT.dE:Bool)) b3/\J tb tc/\J tb bI/\J tb eu/\J tb cm/\J tc bI/\J tc eu/\J tc cm) _ ⟨0,([]:List az),([]:List bO),(GT.bL (α:=List az)),aa,(GT.bL (α:=List bO)),aa,_,_,_,rfl,cL,cL,(by rfl),(by rfl),S.z,Tw,Tx,ak,c4,aT,(fun b _ h=>False.elim h),(J.symm (fun b _ h=>False.elim h)),(J.symm (fun b _ h=>False.elim h)),(J.symm (fun b _ h=>False.elim h)),(J.symm (fun b _ h=>False.elim h)),(J.symm (fun b _ h=>False.elim h)),(J.symm (fun b _ h=>False.elim h))⟩ ?_
 clear S aT Tw Tx c4 ak
 rintro f223 bG aek ac w ⟨k,gs,fT,wB,tb,sY,tc,u,N,β,rfl,hk,Dw,vT,v3,S,pt,kL,ak,c4,aT,d216,d217,d218,d219,d220,d221,d222⟩
 refine S.rs fun S=>?_
 have apY:gs.length<=2:=by rw [vT,List.length_map,List.length_take];omega
 have ap5:fT.length<=2:=by rw [v3,List.length_map,List.length_take];omega
 refine S.a8 6 .nil (decide ((k:Int)<((if 2<(dz.length:Int) then 2 else(dz.length:Int)).toNat:Int))) (fun ac w β acE aby S=>?_) (fun ac w β acE aby S=>?_)
 ·refine S.go 13 (.cons (qN (show GT.rd bz _ _ (dz.take (if 2<(dz.length:Int) then 2 else(dz.length:Int)).toNat) ((nZ.1.b8 0 1,fun i=>nZ.2 (0+i)):af (List cE)) from pJ (S.arg AE) (a:=0) (b:=(if 2<(dz.length:Int) then 2 else(dz.length:Int)).toNat) (by omega) (by omega)) (l:=(if 2<(dz.length:Int) then 2 else(dz.length:Int)).toNat) (k:=k) (i:=(k:Int)) (by omega) rfl (by omega) Tryz.underlying65 (by kernel_rfl)) (.cons (cn (show GT.rd bz _ _ (dz.take (if 2<(dz.length:Int) then 2 else(dz.length:Int)).toNat) ((nZ.1.b8 0 1,fun i=>nZ.2 (0+i)):af (List cE)) from pJ (S.arg AE) (a:=0) (b:=(if 2<(dz.length:Int) then 2 else(dz.length:Int)).toNat) (by omega) (by omega)) 98 k) .nil)) fun ac w β S=>?_
  refine dj ?_
  refine S.df (f:=8) 5 (by kernel_rfl) (by kernel_rfl) fun w S=>?_
  refine S.aI 0 [1,0] [] [(20,.p 1 3)] .nil fun ac S=>?_
  refine S.aI 1 [1] [] [(21,.v (ab gs.length wB.1))] .nil fun ac S=>?_
  refine S.aI 2 [3,2] [] [(22,.v (ab (el (dz.take (if 2<(dz.length:Int) then 2 else(dz.length:Int)).toNat) k).length ((nZ.1.b8 0 1,fun i=>nZ.2 (0+i)).2 k).1))] .nil fun ac S=>?_
  refine ao.one (i:=3) (by kernel_rfl) ?_
  refine id (S.cH 23 (XL w (el (dz.take (if 2<(dz.length:Int) then 2 else(dz.length:Int)).toNat) k) ((nZ.1.b8 0 1,fun i=>nZ.2 (0+i)).2 k) (S.rd (ag.el (show GT.rd bz _ _ (dz.take (if 2<(dz.length:Int) then 2 else(dz.length:Int)).toNat) ((nZ.1.b8 0 1,fun i=>nZ.2 (0+i)):af (List cE)) from pJ (S.arg AE) (a:=0) (b:=(if 2<(dz.length:Int) then 2 else(dz.length:Int)).toNat) (by omega) (by omega)) k (by omega)))) fun ac w N LJ VC S up A9 l3=>?_)
  refine ao.next S up (by kernel_rfl) ?_
  have tu:=J.w l3 pt.sub
  have pW:=J.w l3 kL.sub
  have Gq:=J.w l3 ak.sub
  have CB:=J.w l3 c4.sub
  have Gr:=J.w l3 aT.sub
  replace pt:=pt.up up
  replace kL:=kL.up up
  replace ak:=ak.up up
  replace c4:=c4.up up
  replace aT:=aT.up up
  clear up l3
  refine ao.one (i:=4) (by kernel_rfl) ?_
  refine id (S.pT (α:=az) (x:=(o6 (el (dz.take (if 2<(dz.length:Int) then 2 else(dz.length:Int)).toNat) k))) (p:=LJ) A9.own A9.sub A9.cU (d:=24) (by kernel_rfl) fun ac w N arJ VF S up K8 xi=>?_)
  refine ao.next S up (by kernel_rfl) ?_
  have vm:=xi _ tu pt.sub
  have Gs:=xi _ pW kL.sub
  have OH:=xi _ Gq ak.sub
  have Gt:=xi _ CB c4.sub
  have Gu:=xi _ Gr aT.sub
  replace pt:=pt.up up
  replace kL:=kL.up up
  replace ak:=ak.up up
  replace c4:=c4.up up
  replace aT:=aT.up up
  clear up xi
  refine ao.one (i:=5) (by kernel_rfl) ?_
  refine id (S.vf (α:=az) pt K8 vm (by':=184) (d:=25) (lx:=gs.length) (ly:=1) rfl rfl (by kernel_rfl) (show _<=4194304 by simp only [List.length_append,List.length_cons,List.length_nil];omega) fun ac w N LK VJ S up rA pX=>?_)
  refine ao.last (by kernel_rfl) ?_
  have CC:=pX _ (J.symm d216) Gs kL.sub
  have Gv:=pX _ (J.symm d217) OH ak.sub
  have ZA:=pX _ (J.symm d218) Gt c4.sub
  have zD:=pX _ (J.symm d219) Gu aT.sub
  replace kL:=kL.bp (J.symm d216) up
  replace ak:=ak.bp (J.symm d217) up
  replace c4:=c4.bp (J.symm d218) up
  replace aT:=aT.bp (J.symm d219) up
  clear up pX
  refine S.b8 6 [] [(26,.p 1 3)] 2 [] .nil fun ac w β S=>?_
  refine S.b8 7 [] [] 2 [(1,[ab (List.replicate (b5 8 0 24).toNat (⟨-1,0⟩:aA)).length bE.1,ab (List.replicate (b5 8 0 24).toNat (List.replicate 4 (0:Int))).length dW.1,ab 8 b3.1,ab (gs++[(o6 (el (dz.take (if 2<(dz.length:Int) then 2 else(dz.length:Int)).toNat) k))]).length LK.1,ab ([]:List Int).length (GT.bL (α:=List Int)).1,R 0,R 0,ab fT.length sY.1,R 0])] .nil fun ac w β S=>?_
  refine ao.done (by kernel_rfl) ?_ _
  refine S.ex fun S=>?_
  refine S.go 1 .nil fun ac w β S=>?_
  refine dj ?_
  refine S.df (f:=7) 4 (by kernel_rfl) (by kernel_rfl) fun w S=>?_
  refine S.aI 0 [1,0] [] [(27,.p 1 7)] .nil fun ac S=>?_
  refine S.aI 1 [1] [] [(28,.v (ab fT.length sY.1))] .nil fun ac S=>?_
  refine ao.one (i:=2) (by kernel_rfl) ?_
  refine id (S.cH 29 (Ya w 4) fun ac w N yJ VL S up yy l4=>?_)
  refine ao.next S up (by kernel_rfl) ?_
  have xk:=J.w l4 kL.sub
  have xl:=J.w l4 ak.sub
  have xm:=J.w l4 c4.sub
  have xn:=J.w l4 aT.sub
  have xo:=J.w l4 rA.sub
  replace kL:=kL.up up
  replace ak:=ak.up up
  replace c4:=c4.up up
  replace aT:=aT.up up
  replace rA:=rA.up up
  clear up l4
  refine ao.one (i:=3) (by kernel_rfl) ?_
  refine id (S.pT (α:=bO) (x:=(q5 4)) (p:=yJ) yy.own yy.sub yy.cU (d:=30) (by kernel_rfl) fun ac w N arN amA S up ahD tv=>?_)
  refine ao.next S up (by kernel_rfl) ?_
  have ZD:=tv _ xk kL.sub
  have Gw:=tv _ xl ak.sub
  have CD:=tv _ xm c4.sub
  have CE:=tv _ xn aT.sub
  have ZE:=tv _ xo rA.sub
  replace kL:=kL.up up
  replace ak:=ak.up up
  replace c4:=c4.up up
  replace aT:=aT.up up
  replace rA:=rA.up up
  clear up tv
  refine ao.one (i:=4) (by kernel_rfl) ?_
  refine id (S.vf (α:=bO) kL ahD ZD (by':=48) (d:=31) (lx:=fT.length) (ly:=1) rfl rfl (by kernel_rfl) (show _<=4194304 by simp only [List.length_append,List.length_cons,List.length_nil];omega) fun ac w N Ue VQ S up ahI xq=>?_)
  refine ao.last (by kernel_rfl) ?_
  have ZF:=xq _ (J.symm d220) Gw ak.sub
  have zF:=xq _ (J.symm d221) CD c4.sub
  have zG:=xq _ (J.symm d222) CE aT.sub
  have zH:=xq _ (J.symm CC) ZE rA.sub
  replace ak:=ak.bp (J.symm d220) up
  replace c4:=c4.bp (J.symm d221) up
  replace aT:=aT.bp (J.symm d222) up
  replace rA:=rA.bp (J.symm CC) up
  clear up xq
  refine S.b8 5 [] [(32,.p 1 7)] 2 [] .nil fun ac w β S=>?_
  refine S.b8 6 [] [] 2 [(1,[ab (List.replicate (b5 8 0 24).toNat (⟨-1,0⟩:aA)).length bE.1,ab (List.replicate (b5 8 0 24).toNat (List.replicate 4 (0:Int))).length dW.1,ab 8 b3.1,ab (gs++[(o6 (el (dz.take (if 2<(dz.length:Int) then 2 else(dz.length:Int)).toNat) k))]).length LK.1,ab ([]:List Int).length (GT.bL (α:=List Int)).1,R 0,R 0,ab (fT++[(q5 4)]).length Ue.1,R 0])] .nil fun ac w β S=>?_
  refine ao.done (by kernel_rfl) ?_ _
  refine S.ex fun S=>?_
  refine S.ge 6 (.cons (cO (k:Int) 1) .nil) f223 fun ac w β S=>aek.of (dz.length-(k+1)) _ _ (by omega) ⟨k+1,(gs++[(o6 (el (dz.take (if 2<(dz.length:Int) then 2 else(dz.length:Int)).toNat) k))]),(fT++[(q5 4)]),LK,VJ,Ue,VQ,_,_,_,rfl,?_,?_,?_,?_,S.z,rA,ahI,ak,c4,aT,zH,(J.symm Gv),(J.symm ZA),(J.symm zD),(J.symm ZF),(J.symm zF),(J.symm zG)⟩
  ·exact dn
  ·exact dn
  ·clear S;(first|(rw [yx (by omega) (by omega),←vT];done)|(rw [yx (by omega) (by omega),←vT,C1 (by omega)]))
  ·clear S;(first|(rw [yx (by omega) (by omega),←v3];done)|(rw [yx (by omega) (by omega),←v3,C1 (by omega)]))
 refine S.aP 13 .nil [GT.val (⟨(List.replicate (b5 8 0 24).toNat (⟨-1,0⟩:aA)),(List.replicate (b5 8 0 24).toNat (List.replicate 4 (0:Int))),(List.replicate 8 (GT.dE:Bool)),gs,([]:List Int),0,0,fT,0⟩:aZ) (⟨bE,dW,b3,wB,(GT.bL (α:=List Int)),sY⟩:g6)] fun ac w β S=>?_
 have ahL:=S.hp (α:=Int)
 have ahM:=Bd (x:=(⟨(List.replicate (b5 8 0 24).toNat (⟨-1,0⟩:aA)),(List.replicate (b5 8 0 24).toNat (List.replicate 4 (0:Int))),(List.replicate 8 (GT.dE:Bool)),gs,([]:List Int),0,0,fT,0⟩:aZ)) (p:=(⟨bE,dW,b3,wB,(GT.bL (α:=List Int)),sY⟩:g6)) ak c4 aT pt ahL kL d204 d205 (J.symm d217) (fun b _ h=>False.elim h) (J.symm d220) d206 (J.symm d218) (fun b _ h=>False.elim h) (J.symm d221) (J.symm d219) (fun b _ h=>False.elim h) (J.symm d222) (fun b _ h=>False.elim h) d216 (J.symm (fun b _ h=>False.elim h)) (show aq 0 from⟨by decide,by decide⟩) (show aq 0 from⟨by decide,by decide⟩) (show aq 0 from⟨by decide,by decide⟩)
 exact cT S (show l7 dz=(⟨(List.replicate (b5 8 0 24).toNat (⟨-1,0⟩:aA)),(List.replicate (b5 8 0 24).toNat (List.replicate 4 (0:Int))),(List.replicate 8 (GT.dE:Bool)),gs,([]:List Int),0,0,fT,0⟩:aZ) by clear S;(rw [vT,v3,Ky (by omega),Ky (by omega)];rfl)) rfl ahM
theorem XY (w0:World) (all:List (List (List cE))) (ml:af (List (List cE))) (mb:br w0 all ml):Calls Tryz.prog 17 [ab all.length ml.1].toArray w0 (dZ aa w0 (j2 all:ad)):=by
 refine Calls.run aa Tryz.func17 ?_
 intro ac β S
 have aeG:all.length<=4194304:=ag.le mb
 refine S.go 7 .nil fun ac w β S=>S.ct (r:=(List.replicate (b5 12 0 24).toNat (List.replicate 4 (0:Int)))) (d:=6) (zq w 12) fun ac w N ae aX S up au d4=>?_
 clear up d4
 have af1:(all.take (if 3<(all.length:Int) then 3 else(all.length:Int)).toNat).length=(if 3<(all.length:Int) then 3 else(all.length:Int)).toNat-0:=by first|(simp;done)|(simp;omega)
 refine S.go 18 (.cons (dY (s:=Instr.build 37 [(0,ab (List.replicate (b5 12 0 24).toNat (List.replicate 4 (0:Int))).length ae.1)].toArray) (v:= .agg [ab (List.replicate (b5 12 0 24).toNat (List.replicate 4 (0:Int))).length ae.1,ab ([]:List aZ).length (GT.bL (α:=List aZ)).1,ab ([]:List a0).length (GT.bL (α:=List a0)).1,ab ([]:List a0).length (GT.bL (α:=List a0)).1].toArray) (fun w=>by kernel_rfl)) (.cons (vb (hi:=some (R (if 3<(all.length:Int) then 3 else(all.length:Int)))) (S.arg mb) (l:=all.length) (a:=0) (b:=(if 3<(all.length:Int) then 3 else(all.length:Int)).toNat) rfl (.inl ⟨rfl,rfl⟩) (.inr (congrArg (fun z=>some (R z)) (show(if 3<(all.length:Int) then 3 else(all.length:Int))=(((if 3<(all.length:Int) then 3 else(all.length:Int)).toNat:Nat):Int) by omega))) (by omega) (by omega) Tryz.underlying24 (by kernel_rfl)) .nil)) fun ac w β S=>?_
 have a6:=S.hp (α:=aZ)
 refine ek (fun bG ac w=>∃(k:Nat) (ms:List aZ) (e7:_) (ir:_) (u:_) (N:_) (β:_),bG=all.length-k/\(k<=all.length)/\(k<=3)/\(ms=((all.take 3).take k).map l7)/\aj Tryz.prog Tryz.f17.ntmps w0 aa u N β ⟨[(2,.p 0 0),(3,.p 1 0),(12,.v (ab (if 3<(all.length:Int) then 3 else(all.length:Int)).toNat (ml.1.b8 0 1))),(13,.v (R ((if 3<(all.length:Int) then 3 else(all.length:Int)).toNat:Int))),(14,.v (R (k:Int)))],[c2 ad,[ab (List.replicate (b5 12 0 24).toNat (List.replicate 4 (0:Int))).length ae.1,ab ms.length e7.1,ab ([]:List a0).length (GT.bL (α:=List a0)).1,ab ([]:List a0).length (GT.bL (α:=List a0)).1]]⟩ ac w/\ai w0 aa u N ir ms e7/\ai w0 aa u N aX (List.replicate (b5 12 0 24).toNat (List.replicate 4 (0:Int))) ae/\J ir aX) _ ⟨0,([]:List aZ),(GT.bL (α:=List aZ)),aa,_,_,_,rfl,cL,cL,(by rfl),S.z,a6,au,(J.symm (fun b _ h=>False.elim h))⟩ ?_
 clear S au a6
 rintro f11 bG aee ac w ⟨k,ms,e7,ir,u,N,β,rfl,hk,Dw,DD,S,bS,au,d10⟩
 refine S.rs fun S=>?_
 have apZ:ms.length<=3:=by rw [DD,List.length_map,List.length_take];omega
 refine S.a8 6 .nil (decide ((k:Int)<((if 3<(all.length:Int) then 3 else(all.length:Int)).toNat:Int))) (fun ac w β ni xO S=>?_) (fun ac w β ni xO S=>?_)
 ·refine S.go 12 (.cons (qN (show GT.rd bz _ _ (all.take (if 3<(all.length:Int) then 3 else(all.length:Int)).toNat) ((ml.1.b8 0 1,fun i=>ml.2 (0+i)):af (List (List cE))) from pJ (S.arg mb) (a:=0) (b:=(if 3<(all.length:Int) then 3 else(all.length:Int)).toNat) (by omega) (by omega)) (l:=(if 3<(all.length:Int) then 3 else(all.length:Int)).toNat) (k:=k) (i:=(k:Int)) (by omega) rfl (by omega) Tryz.underlying24 (by kernel_rfl)) (.cons (cn (show GT.rd bz _ _ (all.take (if 3<(all.length:Int) then 3 else(all.length:Int)).toNat) ((ml.1.b8 0 1,fun i=>ml.2 (0+i)):af (List (List cE))) from pJ (S.arg mb) (a:=0) (b:=(if 3<(all.length:Int) then 3 else(all.length:Int)).toNat) (by omega) (by omega)) 65 k) .nil)) fun ac w β S=>?_
  refine dj ?_
  refine S.df (f:=8) 5 (by kernel_rfl) (by kernel_rfl) fun w S=>?_
  refine S.aI 0 [1,0] [] [(18,.p 1 1)] .nil fun ac S=>?_
  refine S.aI 1 [1] [] [(19,.v (ab ms.length e7.1))] .nil fun ac S=>?_
  refine S.aI 2 [3,2] [] [(20,.v (ab (el (all.take (if 3<(all.length:Int) then 3 else(all.length:Int)).toNat) k).length ((ml.1.b8 0 1,fun i=>ml.2 (0+i)).2 k).1))] .nil fun ac S=>?_
  refine ao.one (i:=3) (by kernel_rfl) ?_
  refine id (S.cH 21 (Yb w (el (all.take (if 3<(all.length:Int) then 3 else(all.length:Int)).toNat) k) ((ml.1.b8 0 1,fun i=>ml.2 (0+i)).2 k) (S.rd (ag.el (show GT.rd bz _ _ (all.take (if 3<(all.length:Int) then 3 else(all.length:Int)).toNat) ((ml.1.b8 0 1,fun i=>ml.2 (0+i)):af (List (List cE))) from pJ (S.arg mb) (a:=0) (b:=(if 3<(all.length:Int) then 3 else(all.length:Int)).toNat) (by omega) (by omega)) k (by omega)))) fun ac w N lM mZ S up ef d18=>?_)
  refine ao.next S up (by kernel_rfl) ?_
  have d19:=J.w d18 bS.sub
  have d20:=J.w d18 au.sub
  replace bS:=bS.up up
  replace au:=au.up up
  clear up d18
  refine ao.one (i:=4) (by kernel_rfl) ?_
  refine id (S.pT (α:=aZ) (x:=(l7 (el (all.take (if 3<(all.length:Int) then 3 else(all.length:Int)).toNat) k))) (p:=lM) ef.own ef.sub ef.cU (d:=22) (by kernel_rfl) fun ac w N jO hR S up bY d24=>?_)
  refine ao.next S up (by kernel_rfl) ?_
  have d25:=d24 _ d19 bS.sub
  have d26:=d24 _ d20 au.sub
  replace bS:=bS.up up
  replace au:=au.up up
  clear up d24
  refine ao.one (i:=5) (by kernel_rfl) ?_
  refine id (S.vf (α:=aZ) bS bY d25 (by':=168) (d:=23) (lx:=ms.length) (ly:=1) rfl rfl (by kernel_rfl) (show _<=4194304 by simp only [List.length_append,List.length_cons,List.length_nil];omega) fun ac w N g2 gW S up hq d30=>?_)
  refine ao.last (by kernel_rfl) ?_
  have d31:=d30 _ (J.symm d10) d26 au.sub
  replace au:=au.bp (J.symm d10) up
  clear up d30
  refine S.b8 6 [] [(24,.p 1 1)] 2 [] .nil fun ac w β S=>?_
  refine S.b8 7 [] [] 2 [(1,[ab (List.replicate (b5 12 0 24).toNat (List.replicate 4 (0:Int))).length ae.1,ab (ms++[(l7 (el (all.take (if 3<(all.length:Int) then 3 else(all.length:Int)).toNat) k))]).length g2.1,ab ([]:List a0).length (GT.bL (α:=List a0)).1,ab ([]:List a0).length (GT.bL (α:=List a0)).1])] .nil fun ac w β S=>?_
  refine ao.done (by kernel_rfl) ?_ _
  refine S.ex fun S=>?_
  refine S.ge 6 (.cons (cO (k:Int) 1) .nil) f11 fun ac w β S=>aee.of (all.length-(k+1)) _ _ (by omega) ⟨k+1,(ms++[(l7 (el (all.take (if 3<(all.length:Int) then 3 else(all.length:Int)).toNat) k))]),g2,gW,_,_,_,rfl,?_,?_,?_,S.z,hq,au,(J.symm d31)⟩
  ·exact dn
  ·exact dn
  ·clear S;(first|(rw [yx (by omega) (by omega),←DD];done)|(rw [yx (by omega) (by omega),←DD,C1 (by omega)]))
 refine S.aP 13 .nil [GT.val (⟨(List.replicate (b5 12 0 24).toNat (List.replicate 4 (0:Int))),ms,([]:List a0),([]:List a0)⟩:ad) (⟨ae,e7,(GT.bL (α:=List a0)),(GT.bL (α:=List a0))⟩:cK)] fun ac w β S=>?_
 have eV:=S.hp (α:=a0)
 have gr:=S.hp (α:=a0)
 have k4:=hz (x:=(⟨(List.replicate (b5 12 0 24).toNat (List.replicate 4 (0:Int))),ms,([]:List a0),([]:List a0)⟩:ad)) (p:=(⟨ae,e7,(GT.bL (α:=List a0)),(GT.bL (α:=List a0))⟩:cK)) au bS eV gr (J.symm d10) (fun b _ h=>False.elim h) (fun b _ h=>False.elim h) (fun b _ h=>False.elim h) (fun b _ h=>False.elim h) (fun b _ h=>False.elim h)
 exact cT S (show j2 all=(⟨(List.replicate (b5 12 0 24).toNat (List.replicate 4 (0:Int))),ms,([]:List a0),([]:List a0)⟩:ad) by clear S;(rw [DD,Ky (by omega)];rfl)) rfl k4
theorem Yq (w0:World) (l:List bV) (pl:af bV) (hl:br w0 l pl):Calls Tryz.prog 18 [ab l.length pl.1].toArray w0 (fun e w'=>e= .returned (ab (min l.length 80) (pl.1.b8 0 6))/\bX aa w0 w'):=by
 refine Calls.run aa Tryz.func18 ?_
 intro ac β S
 exact S.bb 16 (.cons (vb (hi:=some (R (if(80:Int)<(l.length:Int) then 80 else(l.length:Int)))) (S.arg hl) (l:=l.length) (a:=0) (b:=min l.length 80) rfl (.inl ⟨rfl,rfl⟩) (.inr (congrArg (fun z=>some (R z)) (show(if(80:Int)<(l.length:Int) then 80 else(l.length:Int))=((min l.length 80:Nat):Int) by omega))) (by omega) (by omega) Tryz.underlying25 (by kernel_rfl)) .nil) [ab (min l.length 80) (pl.1.b8 0 6)] rfl
theorem xe (w0:World) (l:List Int) (pl:af Int) (hl:br w0 l pl):Calls Tryz.prog 170 [ab l.length pl.1].toArray w0 (dZ aa w0 (l:List Int)):=by
 refine Calls.run aa Tryz.func170 ?_
 intro ac β S
 have tZ:l.length<=4194304:=ag.le hl
 refine S.go 7 .nil fun ac w β S=>S.gx (α:=Int) (d:=3) fun ac w N ae aX S up au d4=>?_
 clear up d4
 have xa:l.length<=4194304:=ag.le (S.arg hl)
 refine S.go 1 .nil fun ac w β S=>S.nH (α:=Int) au (S.arg hl) (fun _ _ h=>h) (by':=8) (d:=5) (lx:=0) (ly:=l.length) rfl fun ac w N bZ b7 S up ak d8=>?_
 clear up d8
 refine S.aP 4 .nil [ab l.length bZ.1] fun ac w β S=>?_
 exact cT S (show l=l by clear S;simp) rfl ak
theorem o3 (w0:World) (l:List (List Int)) (pl:af (List Int)) (hl:br w0 l pl):Calls Tryz.prog 107 [ab l.length pl.1].toArray w0 (dZ aa w0 (l:List (List Int))):=by
 refine Calls.run aa Tryz.func107 ?_
 intro ac β S
 have tZ:l.length<=4194304:=ag.le hl
 refine S.go 7 .nil fun ac w β S=>S.gx (α:=List Int) (d:=6) fun ac w N ae aX S up au d4=>?_
 clear up d4
 refine S.go 12 .nil fun ac w β S=>?_
 refine ek (fun bG ac w=>∃(k:Nat) (acc:List (List Int)) (bZ:_) (b7:_) (u:_) (N:_) (β:_),bG=l.length-k/\(k<=l.length)/\(acc=l.take k)/\aj Tryz.prog Tryz.f107.ntmps w0 aa u N β ⟨[(3,.v (ab acc.length bZ.1)),(7,.v (ab l.length pl.1)),(8,.v (R (l.length:Int))),(9,.v (R (k:Int)))],[]⟩ ac w/\ai w0 aa u N b7 acc bZ) _ ⟨0,([]:List (List Int)),ae,aX,_,_,_,rfl,cL,(by simp),S.z,au⟩ ?_
 clear S au
 rintro f8 bG g0 ac w ⟨k,acc,bZ,b7,u,N,β,rfl,hk,cD,S,ak⟩
 refine S.rs fun S=>?_
 have lH:acc.length=k:=by rw [cD];simp;omega
 refine S.a8 6 .nil (decide ((k:Int)<(l.length:Int))) (fun ac w β dq fM S=>?_) (fun ac w β dq fM S=>?_)
 ·refine S.go 15 (.cons (cA (S.arg hl) k Tryz.underlying33) (.cons (cn (S.arg hl) 28 k) .nil)) fun ac w β S=>S.ct (r:=(el l k)) (d:=15) (xe w (el l k) (pl.2 k) (S.rd (ag.el (S.arg hl) k (by omega)))) fun ac w N gF fP S up cJ d15=>?_
  have d16:=J.w d15 ak.sub
  replace ak:=ak.up up
  clear up d15
  refine S.hB (α:=List Int) (x:=(el l k)) (p:=gF) cJ.own cJ.sub cJ.cU (d:=16) fun ac w N mn lV S up eg d20=>?_
  have d21:=d20 _ d16 ak.sub
  replace ak:=ak.up up
  clear up d20
  refine S.qG (α:=List Int) ak eg d21 (by':=24) (d:=17) (lx:=acc.length) (ly:=1) rfl rfl (show _<=4194304 by simp only [List.length_append,List.length_cons,List.length_nil];omega) fun ac w N nC oa S up c4 d25=>?_
  clear up d25
  refine S.ge 8 (.cons (cO (k:Int) 1) .nil) f8 fun ac w β S=>g0.of (l.length-(k+1)) _ _ (by omega) ⟨k+1,(acc++[(el l k)]),nC,oa,_,_,_,rfl,?_,?_,S.z,c4⟩
  ·exact dn
  ·clear S;(first|(rw [iH (by omega),cD];done)|(rw [iH (by omega),cD];simp;done))
 refine S.aP 13 .nil [ab acc.length bZ.1] fun ac w β S=>?_
 exact cT S (show l=acc by clear S;(rw [cD,fj (by omega)])) rfl ak
theorem zw (w0:World) (l:List aA) (pl:af aA) (hl:br w0 l pl):Calls Tryz.prog 171 [ab l.length pl.1].toArray w0 (dZ aa w0 (l:List aA)):=by
 refine Calls.run aa Tryz.func171 ?_
 intro ac β S
 have tZ:l.length<=4194304:=ag.le hl
 refine S.go 7 .nil fun ac w β S=>S.gx (α:=aA) (d:=3) fun ac w N ae aX S up au d4=>?_
 clear up d4
 have xa:l.length<=4194304:=ag.le (S.arg hl)
 refine S.go 1 .nil fun ac w β S=>S.nH (α:=aA) au (S.arg hl) (fun _ _ h=>h) (by':=16) (d:=5) (lx:=0) (ly:=l.length) rfl fun ac w N bZ b7 S up ak d8=>?_
 clear up d8
 refine S.aP 4 .nil [ab l.length bZ.1] fun ac w β S=>?_
 exact cT S (show l=l by clear S;simp) rfl ak
theorem tr (w0:World) (g:az) (cv:dB) (aJ:br w0 g cv):Calls Tryz.prog 126 [GT.val g cv].toArray w0 (dZ aa w0 (g:az)):=by
 refine Calls.run aa Tryz.func126 ?_
 intro ac β S
 have nT:g.prog.length<=4194304:=ag.le (a5.prog (d:=g) aJ)
 have nV:g.written.length<=4194304:=ag.le (a5.written (d:=g) aJ)
 have nS:g.live.length<=4194304:=ag.le (a5.live (d:=g) aJ)
 have nU:g.seen.length<=4194304:=ag.le (a5.seen (d:=g) aJ)
 refine S.go 10 .nil fun ac w β S=>S.ct (r:=g.prog) (d:=5) (Ok w g.prog cv.prog (S.rd (a5.prog (d:=g) (S.arg aJ)))) fun ac w N ae aX S up au d4=>?_
 clear up d4
 refine S.go 8 .nil fun ac w β S=>S.ct (r:=g.written) (d:=9) (zw w g.written cv.written (S.rd (a5.written (d:=g) (S.arg aJ)))) fun ac w N bZ b7 S up ak d8=>?_
 have d9:=J.w d8 au.sub
 replace au:=au.up up
 clear up d8
 refine S.go 8 .nil fun ac w β S=>S.ct (r:=g.live) (d:=13) (zw w g.live cv.live (S.rd (a5.live (d:=g) (S.arg aJ)))) fun ac w N dH dy S up aW d13=>?_
 have d14:=J.w d13 au.sub
 have d15:=J.w d13 ak.sub
 replace au:=au.up up
 replace ak:=ak.up up
 clear up d13
 refine S.go 8 .nil fun ac w β S=>S.ct (r:=g.seen) (d:=17) (xe w g.seen cv.seen (S.rd (a5.seen (d:=g) (S.arg aJ)))) fun ac w N b3 cm S up gR d19=>?_
 have d20:=J.w d19 au.sub
 have d21:=J.w d19 ak.sub
 have d22:=J.w d19 aW.sub
 replace au:=au.up up
 replace ak:=ak.up up
 replace aW:=aW.up up
 clear up d19
 refine S.aP 11 .nil [GT.val (⟨g.prog,g.acc,g.aN,g.written,g.live,g.bH,g.av,g.exit,g.halted,g.seen⟩:az) (⟨ae,bZ,dH,b3⟩:dB)] fun ac w β S=>?_
 have bY:=ke (x:=(⟨g.prog,g.acc,g.aN,g.written,g.live,g.bH,g.av,g.exit,g.halted,g.seen⟩:az)) (p:=(⟨ae,bZ,dH,b3⟩:dB)) au ak aW gR d9 d14 d20 d15 d21 d22 (a5.acc (d:=g) (S.arg aJ)) (a5.aN (d:=g) (S.arg aJ)) (a5.bH (d:=g) (S.arg aJ)) (a5.av (d:=g) (S.arg aJ)) (a5.exit (d:=g) (S.arg aJ))
 exact cT S (show g=(⟨g.prog,g.acc,g.aN,g.written,g.live,g.bH,g.av,g.exit,g.halted,g.seen⟩:az) by clear S;(first|rfl|simp)) rfl bY
theorem zu (w0:World) (l:List az) (pl:af az) (hl:br w0 l pl):Calls Tryz.prog 144 [ab l.length pl.1].toArray w0 (dZ aa w0 (l:List az)):=by
 refine Calls.run aa Tryz.func144 ?_
 intro ac β S
 have tZ:l.length<=4194304:=ag.le hl
 refine S.go 7 .nil fun ac w β S=>S.gx (α:=az) (d:=6) fun ac w N ae aX S up au d4=>?_
 clear up d4
 refine S.go 12 .nil fun ac w β S=>?_
 refine ek (fun bG ac w=>∃(k:Nat) (acc:List az) (bZ:_) (b7:_) (u:_) (N:_) (β:_),bG=l.length-k/\(k<=l.length)/\(acc=l.take k)/\aj Tryz.prog Tryz.f144.ntmps w0 aa u N β ⟨[(3,.v (ab acc.length bZ.1)),(7,.v (ab l.length pl.1)),(8,.v (R (l.length:Int))),(9,.v (R (k:Int)))],[]⟩ ac w/\ai w0 aa u N b7 acc bZ) _ ⟨0,([]:List az),ae,aX,_,_,_,rfl,cL,(by simp),S.z,au⟩ ?_
 clear S au
 rintro f8 bG g0 ac w ⟨k,acc,bZ,b7,u,N,β,rfl,hk,cD,S,ak⟩
 refine S.rs fun S=>?_
 have lH:acc.length=k:=by rw [cD];simp;omega
 refine S.a8 6 .nil (decide ((k:Int)<(l.length:Int))) (fun ac w β dq fM S=>?_) (fun ac w β dq fM S=>?_)
 ·refine S.go 16 (.cons (cA (S.arg hl) k Tryz.underlying68) (.cons (dR (S.arg hl) 102 k) .nil)) fun ac w β S=>S.ct (r:=(el l k)) (d:=15) (tr w (el l k) (pl.2 k) (S.rd (ag.el (S.arg hl) k (by omega)))) fun ac w N gF fP S up cJ d15=>?_
  have d16:=J.w d15 ak.sub
  replace ak:=ak.up up
  clear up d15
  refine S.hB (α:=az) (x:=(el l k)) (p:=gF) cJ.own cJ.sub cJ.cU (d:=16) fun ac w N mn lV S up eg d20=>?_
  have d21:=d20 _ d16 ak.sub
  replace ak:=ak.up up
  clear up d20
  refine S.qG (α:=az) ak eg d21 (by':=184) (d:=17) (lx:=acc.length) (ly:=1) rfl rfl (show _<=4194304 by simp only [List.length_append,List.length_cons,List.length_nil];omega) fun ac w N nC oa S up c4 d25=>?_
  clear up d25
  refine S.ge 8 (.cons (cO (k:Int) 1) .nil) f8 fun ac w β S=>g0.of (l.length-(k+1)) _ _ (by omega) ⟨k+1,(acc++[(el l k)]),nC,oa,_,_,_,rfl,?_,?_,S.z,c4⟩
  ·exact dn
  ·clear S;(first|(rw [iH (by omega),cD];done)|(rw [iH (by omega),cD];simp;done))
 refine S.aP 13 .nil [ab acc.length bZ.1] fun ac w β S=>?_
 exact cT S (show l=acc by clear S;(rw [cD,fj (by omega)])) rfl ak
theorem zv (w0:World) (k:bO) (fH:hI) (hk:br w0 k fH):Calls Tryz.prog 151 [GT.val k fH].toArray w0 (dZ aa w0 (k:bO)):=by
 refine Calls.run aa Tryz.func151 ?_
 intro ac β S
 have x_:k.known.length<=4194304:=ag.le (hV.known (d:=k) hk)
 have ya:k.bN.length<=4194304:=ag.le (hV.bN (d:=k) hk)
 refine S.go 7 .nil fun ac w β S=>?_
 refine dj ?_
 refine S.df (f:=9) 8 (by kernel_rfl) (by kernel_rfl) fun w S=>?_
 refine S.hm 5 [1,2,4,5] [] [(5,.v (ab k.known.length fH.known.1)),(8,.v (ab k.bN.length fH.bN.1))] .nil fun ac S=>?_
 refine ao.one (i:=0) (by kernel_rfl) ?_
 refine id (S.jq (α:=Bool) (d:=3) (by kernel_rfl) fun ac w N ae aX S up au d4=>?_)
 have Am:=fun b h=>(⟨(up b h).1,(up b h).2,d4 b h⟩:_/\_/\_)
 refine ao.keep S up (by kernel_rfl) ?_
 clear up d4
 refine ao.one (i:=3) (by kernel_rfl) ?_
 have pS:k.known.length<=4194304:=ag.le (hV.known (d:=k) (S.arg hk))
 refine id (S.pR (α:=Bool) au (hV.known (d:=k) (S.arg hk)) (fun _ _ h=>h) (by':=1) (d:=6) (lx:=0) (ly:=k.known.length) rfl fun ac w N e7 ir S up bS d9=>?_)
 have ad7:=fun b h=>(⟨(up b (Am b h).1 (Am b h).2.2).1,(up b (Am b h).1 (Am b h).2.2).2.trans (Am b h).2.1⟩:_/\_)
 refine ao.next S ad7 (by kernel_rfl) ?_
 clear up d9
 refine ao.one (i:=6) (by kernel_rfl) ?_
 refine id (S.cH 9 (zw w k.bN fH.bN (S.rd (hV.bN (d:=k) (S.arg hk)))) fun ac w N gF fP S up cJ d15=>?_)
 refine ao.next S up (by kernel_rfl) ?_
 have d16:=J.w d15 bS.sub
 replace bS:=bS.up up
 clear up d15
 refine S.aI 7 [7] [] [(10,.v (GT.val (⟨k.known,k.bN⟩:bO) (⟨e7,gF⟩:hI)))] (.cons (dY (s:=Instr.build 105 [(0,ab k.known.length e7.1),(1,ab k.bN.length gF.1)].toArray) (v:= .agg [ab k.known.length e7.1,ab k.bN.length gF.1].toArray) (fun w=>by kernel_rfl)) .nil) fun ac S=>?_
 refine S.b8 8 [] [] 2 [(1,[ab k.known.length e7.1,ab k.bN.length gF.1])] .nil fun ac w β S=>?_
 refine ao.done (by kernel_rfl) ?_ _
 refine S.ex fun S=>?_
 refine S.aP 2 .nil [GT.val (⟨k.known,k.bN⟩:bO) (⟨e7,gF⟩:hI)] fun ac w β S=>?_
 have ef:=pD (x:=(⟨k.known,k.bN⟩:bO)) (p:=(⟨e7,gF⟩:hI)) bS cJ d16
 exact cT S (show k=(⟨k.known,k.bN⟩:bO) by clear S;(first|rfl|simp)) rfl ef
theorem Oj (w0:World) (m:aZ) (pm:g6) (hm:br w0 m pm):Calls Tryz.prog 108 [GT.val m pm].toArray w0 (dZ aa w0 (m:aZ)):=by
 refine Calls.run aa Tryz.func108 ?_
 intro ac β S
 have Rw:m.outer.length<=4194304:=ag.le (bn.outer (d:=m) hm)
 have Rv:m.out.length<=4194304:=ag.le (bn.out (d:=m) hm)
 have Rt:m.bj.length<=4194304:=ag.le (bn.bj (d:=m) hm)
 have Ru:m.U.length<=4194304:=ag.le (bn.U (d:=m) hm)
 have Rx:m.outs.length<=4194304:=ag.le (bn.outs (d:=m) hm)
 have Ry:m.tables.length<=4194304:=ag.le (bn.tables (d:=m) hm)
 refine S.go 10 .nil fun ac w β S=>S.ct (r:=m.outer) (d:=8) (zw w m.outer pm.outer (S.rd (bn.outer (d:=m) (S.arg hm)))) fun ac w N ae aX S up au d4=>?_
 clear up d4
 refine S.go 8 .nil fun ac w β S=>S.ct (r:=m.out) (d:=12) (o3 w m.out pm.out (S.rd (bn.out (d:=m) (S.arg hm)))) fun ac w N bZ b7 S up ak d8=>?_
 have d9:=J.w d8 au.sub
 replace au:=au.up up
 clear up d8
 refine S.go 6 .nil fun ac w β S=>S.gx (α:=Bool) (d:=14) fun ac w N dH dy S up aW d13=>?_
 have d14:=J.w d13 au.sub
 have d15:=J.w d13 ak.sub
 replace au:=au.up up
 replace ak:=ak.up up
 clear up d13
 have anj:m.bj.length<=4194304:=ag.le (bn.bj (d:=m) (S.arg hm))
 refine S.go 2 .nil fun ac w β S=>S.nH (α:=Bool) aW (bn.bj (d:=m) (S.arg hm)) (fun _ _ h=>h) (by':=1) (d:=17) (lx:=0) (ly:=m.bj.length) rfl fun ac w N b3 cm S up gR d19=>?_
 have d21:=d19 _ d14 au.sub
 have d22:=d19 _ d15 ak.sub
 replace au:=au.bp d14 up
 replace ak:=ak.bp d15 up
 clear up d19
 refine S.go 8 .nil fun ac w β S=>S.ct (r:=m.U) (d:=21) (zu w m.U pm.U (S.rd (bn.U (d:=m) (S.arg hm)))) fun ac w N e0 k7 S up eI d26=>?_
 have d27:=J.w d26 au.sub
 have d28:=J.w d26 ak.sub
 have d29:=J.w d26 gR.sub
 replace au:=au.up up
 replace ak:=ak.up up
 replace gR:=gR.up up
 clear up d26
 refine S.go 8 .nil fun ac w β S=>S.ct (r:=m.outs) (d:=25) (xe w m.outs pm.outs (S.rd (bn.outs (d:=m) (S.arg hm)))) fun ac w N fI fZ S up eV d33=>?_
 have d34:=J.w d33 au.sub
 have d35:=J.w d33 ak.sub
 have d36:=J.w d33 gR.sub
 have d37:=J.w d33 eI.sub
 replace au:=au.up up
 replace ak:=ak.up up
 replace gR:=gR.up up
 replace eI:=eI.up up
 clear up d33
 refine S.go 6 .nil fun ac w β S=>S.gx (α:=bO) (d:=27) fun ac w N n1 qK S up ln d41=>?_
 have d42:=J.w d41 au.sub
 have d43:=J.w d41 ak.sub
 have d44:=J.w d41 gR.sub
 have d45:=J.w d41 eI.sub
 have d46:=J.w d41 eV.sub
 replace au:=au.up up
 replace ak:=ak.up up
 replace gR:=gR.up up
 replace eI:=eI.up up
 replace eV:=eV.up up
 clear up d41
 refine S.go 13 .nil fun ac w β S=>?_
 refine ek (fun bG ac w=>∃(k:Nat) (acc:List bO) (uP:_) (qL:_) (u:_) (N:_) (β:_),bG=m.tables.length-k/\(k<=m.tables.length)/\(acc=m.tables.take k)/\aj Tryz.prog Tryz.f108.ntmps w0 aa u N β ⟨[(1,.p 0 0),(2,.p 1 0),(3,.v (ab acc.length uP.1)),(29,.v (ab m.tables.length pm.tables.1)),(30,.v (R (m.tables.length:Int))),(31,.v (R (k:Int)))],[[ab m.outer.length ae.1,ab m.out.length bZ.1,ab m.bj.length b3.1,ab m.U.length e0.1,ab m.outs.length fI.1,R m.av,R m.bQ,ab m.tables.length pm.tables.1,R m.owned],c2 aZ]⟩ ac w/\ai w0 aa u N qL acc uP/\ai w0 aa u N aX m.outer ae/\ai w0 aa u N b7 m.out bZ/\ai w0 aa u N cm m.bj b3/\ai w0 aa u N k7 m.U e0/\ai w0 aa u N fZ m.outs fI/\J qL aX/\J qL b7/\J qL cm/\J qL k7/\J qL fZ) _ ⟨0,([]:List bO),n1,qK,_,_,_,rfl,cL,(by simp),S.z,ln,au,ak,gR,eI,eV,(J.symm d42),(J.symm d43),(J.symm d44),(J.symm d45),(J.symm d46)⟩ ?_
 clear S gR eI au eV ln ak
 rintro f55 bG aer ac w ⟨k,acc,uP,qL,u,N,β,rfl,hk,cD,S,gh,au,ak,gR,eI,eV,d50,d51,d52,d53,d54⟩
 refine S.rs fun S=>?_
 have lH:acc.length=k:=by rw [cD];simp;omega
 refine S.a8 6 .nil (decide ((k:Int)<(m.tables.length:Int))) (fun ac w β vF zZ S=>?_) (fun ac w β vF zZ S=>?_)
 ·refine S.go 16 (.cons (cA (bn.tables (d:=m) (S.arg hm)) k Tryz.underlying69) (.cons (dR (bn.tables (d:=m) (S.arg hm)) 105 k) .nil)) fun ac w β S=>S.ct (r:=(el m.tables k)) (d:=37) (zv w (el m.tables k) (pm.tables.2 k) (S.rd (ag.el (bn.tables (d:=m) (S.arg hm)) k (by omega)))) fun ac w N ep jT S up dQ d62=>?_
  have d63:=J.w d62 gh.sub
  have d64:=J.w d62 au.sub
  have d65:=J.w d62 ak.sub
  have d66:=J.w d62 gR.sub
  have d67:=J.w d62 eI.sub
  have d68:=J.w d62 eV.sub
  replace gh:=gh.up up
  replace au:=au.up up
  replace ak:=ak.up up
  replace gR:=gR.up up
  replace eI:=eI.up up
  replace eV:=eV.up up
  clear up d62
  refine S.hB (α:=bO) (x:=(el m.tables k)) (p:=ep) dQ.own dQ.sub dQ.cU (d:=38) fun ac w N mV m0 S up h_ d72=>?_
  have d73:=d72 _ d63 gh.sub
  have d74:=d72 _ d64 au.sub
  have d75:=d72 _ d65 ak.sub
  have d76:=d72 _ d66 gR.sub
  have d77:=d72 _ d67 eI.sub
  have d78:=d72 _ d68 eV.sub
  replace gh:=gh.up up
  replace au:=au.up up
  replace ak:=ak.up up
  replace gR:=gR.up up
  replace eI:=eI.up up
  replace eV:=eV.up up
  clear up d72
  refine S.qG (α:=bO) gh h_ d73 (by':=48) (d:=39) (lx:=acc.length) (ly:=1) rfl rfl (show _<=4194304 by simp only [List.length_append,List.length_cons,List.length_nil];omega) fun ac w N Un B8 S up qp d82=>?_
  have d83:=d82 _ (J.symm d50) d74 au.sub
  have d84:=d82 _ (J.symm d51) d75 ak.sub
  have d85:=d82 _ (J.symm d52) d76 gR.sub
  have d86:=d82 _ (J.symm d53) d77 eI.sub
  have d87:=d82 _ (J.symm d54) d78 eV.sub
  replace au:=au.bp (J.symm d50) up
  replace ak:=ak.bp (J.symm d51) up
  replace gR:=gR.bp (J.symm d52) up
  replace eI:=eI.bp (J.symm d53) up
  replace eV:=eV.bp (J.symm d54) up
  clear up d82
  refine S.ge 8 (.cons (cO (k:Int) 1) .nil) f55 fun ac w β S=>aer.of (m.tables.length-(k+1)) _ _ (by omega) ⟨k+1,(acc++[(el m.tables k)]),Un,B8,_,_,_,rfl,?_,?_,S.z,qp,au,ak,gR,eI,eV,(J.symm d83),(J.symm d84),(J.symm d85),(J.symm d86),(J.symm d87)⟩
  ·exact dn
  ·clear S;(first|(rw [iH (by omega),cD];done)|(rw [iH (by omega),cD];simp;done))
 refine S.aP 20 .nil [GT.val (⟨m.outer,m.out,m.bj,m.U,m.outs,m.av,m.bQ,acc,m.owned⟩:aZ) (⟨ae,bZ,b3,e0,fI,uP⟩:g6)] fun ac w β S=>?_
 have rC:=Bd (x:=(⟨m.outer,m.out,m.bj,m.U,m.outs,m.av,m.bQ,acc,m.owned⟩:aZ)) (p:=(⟨ae,bZ,b3,e0,fI,uP⟩:g6)) au ak gR eI eV gh d9 d21 d27 d34 (J.symm d50) d22 d28 d35 (J.symm d51) d29 d36 (J.symm d52) d37 (J.symm d53) (J.symm d54) (bn.av (d:=m) (S.arg hm)) (bn.bQ (d:=m) (S.arg hm)) (bn.owned (d:=m) (S.arg hm))
 exact cT S (show m=(⟨m.outer,m.out,m.bj,m.U,m.outs,m.av,m.bQ,acc,m.owned⟩:aZ) by clear S;(first|rfl|(rw [cD,fj (by omega)];done)|(rw [cD,fj (by omega)];simp;done)|simp)) rfl rC
theorem hn (w0:World) (h:ad) (aK:cK) (ax:br w0 h aK):Calls Tryz.prog 47 [GT.val h aK].toArray w0 (dZ aa w0 (h:ad)):=by
 refine Calls.run aa Tryz.func47 ?_
 intro ac β S
 have gO:h.mem.length<=4194304:=ag.le (a4.mem (d:=h) ax)
 have gP:h.I.length<=4194304:=ag.le (a4.I (d:=h) ax)
 have gM:h.buf.length<=4194304:=ag.le (a4.buf (d:=h) ax)
 have gN:h.ar.length<=4194304:=ag.le (a4.ar (d:=h) ax)
 refine S.go 7 .nil fun ac w β S=>?_
 refine dj ?_
 let bf:bw:=⟨[(1,.p 0 0),(2,.p 1 0)],[GT.cells h aK,c2 ad]⟩
 obtain⟨ba,a_,bg,S⟩:∃ba a_ bg,aj Tryz.prog Tryz.f47.ntmps w0 aa ba a_ bg bf ac w:=⟨_,_,_,S.z⟩
 refine lT (fun ac w=>∃ey ff ji kx bE bI u N β,aj Tryz.prog Tryz.f47.ntmps w0 aa u N β (bf.dl [] [(3,.p 2 0)] 3 [(2,[ab h.mem.length bE.1,ab ([]:List aZ).length (GT.bL (α:=List aZ)).1,ab h.buf.length ey.1,ab h.ar.length ji.1])]) ac w/\ai w0 aa u N ff h.buf ey/\ai w0 aa u N kx h.ar ji/\ai w0 aa u N bI h.mem bE/\J ff kx/\J ff bI/\J kx bI) ?_ ?_
 ·refine S.df (f:=14) 13 (by kernel_rfl) (by kernel_rfl) fun w S=>?_
  refine S.hm 8 [0,1,4,5,8,9] [] [(7,.v (ab h.mem.length aK.mem.1)),(11,.v (ab h.buf.length aK.buf.1)),(15,.v (ab h.ar.length aK.ar.1))] .nil fun ac S=>?_
  refine ao.mh fun W aO=>?_
  refine ao.l0 (l':=cc 14 [0,1,4,5,8,9]) (by kernel_rfl) ?_
  have ao4 ac w ey ff ji kx bE bI u N β (S:aj Tryz.prog Tryz.f47.ntmps w0 aa u N β (bf.dl [] [(3,.p 2 0)] 3 [(2,[ab h.mem.length bE.1,ab ([]:List aZ).length (GT.bL (α:=List aZ)).1,ab h.buf.length ey.1,ab h.ar.length ji.1])]) ac w) (fq:ai w0 aa u N ff h.buf ey) (kK:ai w0 aa u N kx h.ar ji) (ak:ai w0 aa u N bI h.mem bE) (d222:J ff kx) (d223:J ff bI) (d224:J kx bI):W 0 (cc 14 [0,1,2,3,4,5,6,7,8,9,10,11,12,13]) ac w:=by
   exact mi aO ⟨rfl,ey,ff,ji,kx,bE,bI,_,_,_,S.z,fq,kK,ak,d222,d223,d224⟩
  have adm ac w ey ff ji kx bE bI u N β (S:aj Tryz.prog Tryz.f47.ntmps w0 aa u N β (bf.dl [] [(3,.p 2 0),(8,.v (ab h.mem.length bE.1)),(12,.v (ab h.buf.length ey.1)),(16,.v (ab h.ar.length ji.1))] 3 [(2,c2 ad)]) ac w) (fq:ai w0 aa u N ff h.buf ey) (kK:ai w0 aa u N kx h.ar ji) (ak:ai w0 aa u N bI h.mem bE) (d226:J ff kx) (Zx:J ff bI) (tt:J kx bI) (an:cZ a_ ba N u) (aL:cr bf.ay.length bg β):W 2 (cc 14 [0,1,2,3,4,5,6,7,8,9,10,12]) ac w:=by
   exact S.hQ aO an aL (bf.dl [] [(3,.p 2 0)] 3 [(2,[ab h.mem.length bE.1,ab ([]:List aZ).length (GT.bL (α:=List aZ)).1,ab h.buf.length ey.1,ab h.ar.length ji.1])]) 1 (.cons 11 (dY (s:=Instr.build 37 [(0,ab h.mem.length bE.1),(2,ab h.buf.length ey.1),(3,ab h.ar.length ji.1)].toArray) (v:= .agg [ab h.mem.length bE.1,ab ([]:List aZ).length (GT.bL (α:=List aZ)).1,ab h.buf.length ey.1,ab h.ar.length ji.1].toArray) (fun w=>by kernel_rfl)) .nil) fun _ _ _ S=>⟨rfl,ey,ff,ji,kx,bE,bI,_,_,_,S,fq,kK,ak,d226,Zx,tt⟩
  have adn ac w ey ff ji kx bE bI u N β (S:aj Tryz.prog Tryz.f47.ntmps w0 aa u N β (bf.dl [] [(8,.v (ab h.mem.length bE.1)),(12,.v (ab h.buf.length ey.1)),(16,.v (ab h.ar.length ji.1))] 2 []) ac w) (fq:ai w0 aa u N ff h.buf ey) (kK:ai w0 aa u N kx h.ar ji) (ak:ai w0 aa u N bI h.mem bE) (l3:J ff kx) (tu:J ff bI) (pW:J kx bI) (an:cZ a_ ba N u) (aL:cr bf.ay.length bg β):W 3 (cc 14 [0,1,2,3,4,5,6,7,8,9,10]) ac w:=by
   exact S.hQ aO an aL (bf.dl [] [(3,.p 2 0)] 3 [(2,[ab h.mem.length bE.1,ab ([]:List aZ).length (GT.bL (α:=List aZ)).1,ab h.buf.length ey.1,ab h.ar.length ji.1])]) 2 (.cons 11 (dY (s:=Instr.build 37 [(0,ab h.mem.length bE.1),(2,ab h.buf.length ey.1),(3,ab h.ar.length ji.1)].toArray) (v:= .agg [ab h.mem.length bE.1,ab ([]:List aZ).length (GT.bL (α:=List aZ)).1,ab h.buf.length ey.1,ab h.ar.length ji.1].toArray) (fun w=>by kernel_rfl)) .nil) fun _ _ _ S=>⟨rfl,ey,ff,ji,kx,bE,bI,_,_,_,S,fq,kK,ak,l3,tu,pW⟩
  have HS ac w ey ff eA c5 bE bI u N β (S:aj Tryz.prog Tryz.f47.ntmps w0 aa u N β (bf.dl [] [(3,.p 2 0),(8,.v (ab h.mem.length bE.1)),(12,.v (ab h.buf.length ey.1)),(13,.v (ab 0 eA.1)),(15,.v (ab h.ar.length aK.ar.1))] 3 [(2,c2 ad)]) ac w) (fq:ai w0 aa u N ff h.buf ey) (bY:ai w0 aa u N c5 ([]:List a0) eA) (ak:ai w0 aa u N bI h.mem bE) (CB:J ff c5) (Gr:J ff bI) (OG:J c5 bI) (an:∀b,a_ b->N b/\u.heap[b]? =ba.heap[b]? /\¬c5 b) (aL:cr bf.ay.length bg β):W 3 (cc 14 [0,1,2,3,4,5,6,7,8,9,12]) ac w:=by
   refine eJ aO 10 ?_
   have ank:h.ar.length<=4194304:=ag.le (a4.ar (d:=h) (S.arg ax))
   refine id (S.pR (α:=a0) bY (a4.ar (d:=h) (S.arg ax)) (fun _ _ h=>h) (by':=32) (d:=16) (lx:=0) (ly:=h.ar.length) rfl fun ac w N ajE VG S up Ty vm=>?_)
   have QW:=fun b h=>(⟨(up b (an b h).1 (an b h).2.2).1,(up b (an b h).1 (an b h).2.2).2.trans (an b h).2.1⟩:_/\_)
   refine ao.dA S QW aL fun bx=>?_
   have Gt:=vm _ (J.symm OG) ak.sub
   have Gu:=vm _ CB fq.sub
   replace ak:=ak.bp (J.symm OG) up
   replace fq:=fq.bp CB up
   clear up vm
   exact S.dp aO [] bx fun _ S=>adm _ _ ey ff ajE VG bE bI _ _ _ S fq Ty ak Gu Gr (J.symm Gt) QW aL
  have P6 ac w ey ff eA c5 bE bI u N β (S:aj Tryz.prog Tryz.f47.ntmps w0 aa u N β (bf.dl [] [(8,.v (ab h.mem.length bE.1)),(12,.v (ab h.buf.length ey.1)),(13,.v (ab 0 eA.1)),(15,.v (ab h.ar.length aK.ar.1))] 2 []) ac w) (fq:ai w0 aa u N ff h.buf ey) (bY:ai w0 aa u N c5 ([]:List a0) eA) (ak:ai w0 aa u N bI h.mem bE) (vn:J ff c5) (xj:J ff bI) (pX:J c5 bI) (an:∀b,a_ b->N b/\u.heap[b]? =ba.heap[b]? /\¬c5 b) (aL:cr bf.ay.length bg β):W 4 (cc 14 [0,1,2,3,4,5,6,7,8,9]) ac w:=by
   refine jC aO 10 12 ?_ (S.fv aO (fun b h=>⟨(an b h).1,(an b h).2.1⟩) aL [] .nil fun _ _ _ S bU=>HS _ _ ey ff eA c5 bE bI _ _ _ S fq bY ak vn xj pX an bU)
   have anm:h.ar.length<=4194304:=ag.le (a4.ar (d:=h) (S.arg ax))
   refine id (S.pR (α:=a0) bY (a4.ar (d:=h) (S.arg ax)) (fun _ _ h=>h) (by':=32) (d:=16) (lx:=0) (ly:=h.ar.length) rfl fun ac w N ajG VK S up ahA zD=>?_)
   have QX:=fun b h=>(⟨(up b (an b h).1 (an b h).2.2).1,(up b (an b h).1 (an b h).2.2).2.trans (an b h).2.1⟩:_/\_)
   refine ao.dA S QX aL fun bx=>?_
   have ZB:=zD _ (J.symm pX) ak.sub
   have l4:=zD _ vn fq.sub
   replace ak:=ak.bp (J.symm pX) up
   replace fq:=fq.bp vn up
   clear up zD
   exact S.dp aO [] bx fun _ S=>adn _ _ ey ff ajG VK bE bI _ _ _ S fq ahA ak l4 xj (J.symm ZB) QX aL
  have P7 ac w ey ff bE bI u N β (S:aj Tryz.prog Tryz.f47.ntmps w0 aa u N β (bf.dl [] [(3,.p 2 0),(8,.v (ab h.mem.length bE.1)),(12,.v (ab h.buf.length ey.1)),(15,.v (ab h.ar.length aK.ar.1))] 3 [(2,c2 ad)]) ac w) (fq:ai w0 aa u N ff h.buf ey) (ak:ai w0 aa u N bI h.mem bE) (xl:J ff bI) (an:cZ a_ ba N u) (aL:cr bf.ay.length bg β):W 4 (cc 14 [0,1,2,3,4,5,6,8,9,12]) ac w:=by
   refine eJ aO 7 ?_
   refine id (S.jq (α:=a0) (d:=13) (by kernel_rfl) fun ac w N LL M9 S up K9 pY=>?_)
   have Io:=fun b h=>(⟨(up b (an b h).1).1,(up b (an b h).1).2.trans (an b h).2,pY b (an b h).1⟩:_/\_/\_)
   refine ao.dA S (fun b h=>⟨(Io b h).1,(Io b h).2.1⟩) aL fun bx=>?_
   have ZC:=J.w pY ak.sub
   have tv:=J.w pY fq.sub
   replace ak:=ak.up up
   replace fq:=fq.up up
   clear up pY
   exact S.dp aO [] bx fun _ S=>HS _ _ ey ff LL M9 bE bI _ _ _ S fq K9 ak tv xl (J.symm ZC) Io aL
  have Dk ac w eA c5 bE bI b3 cm u N β (S:aj Tryz.prog Tryz.f47.ntmps w0 aa u N β (bf.dl [] [(3,.p 2 0),(8,.v (ab h.mem.length bE.1)),(9,.v (ab 0 b3.1)),(11,.v (ab h.buf.length aK.buf.1)),(13,.v (ab 0 eA.1)),(15,.v (ab h.ar.length aK.ar.1))] 3 [(2,c2 ad)]) ac w) (bY:ai w0 aa u N c5 ([]:List a0) eA) (ak:ai w0 aa u N bI h.mem bE) (aT:ai w0 aa u N cm ([]:List a0) b3) (Gw:J c5 bI) (CD:J c5 cm) (CE:J bI cm) (an:∀b,a_ b->N b/\u.heap[b]? =ba.heap[b]? /\¬cm b/\¬c5 b) (aL:cr bf.ay.length bg β):W 4 (cc 14 [0,1,2,3,4,5,7,8,9,12]) ac w:=by
   refine eJ aO 6 ?_
   have ann:h.buf.length<=4194304:=ag.le (a4.buf (d:=h) (S.arg ax))
   refine id (S.pR (α:=a0) aT (a4.buf (d:=h) (S.arg ax)) (fun _ _ h=>h) (by':=32) (d:=12) (lx:=0) (ly:=h.buf.length) rfl fun ac w N ajK VP S up ahH zE=>?_)
   have Ip:=fun b h=>(⟨(up b (an b h).1 (an b h).2.2.1).1,(up b (an b h).1 (an b h).2.2.1).2.trans (an b h).2.1,(an b h).2.2.2⟩:_/\_/\_)
   refine ao.dA S (fun b h=>⟨(Ip b h).1,(Ip b h).2.1⟩) aL fun bx=>?_
   have zF:=zE _ CE ak.sub
   have zG:=zE _ CD bY.sub
   replace ak:=ak.bp CE up
   replace bY:=bY.bp CD up
   clear up zE
   exact S.dp aO [] bx fun _ S=>HS _ _ ajK VP eA c5 bE bI _ _ _ S ahH bY ak (J.symm zG) (J.symm zF) Gw Ip aL
  have adp ac w ey ff bE bI u N β (S:aj Tryz.prog Tryz.f47.ntmps w0 aa u N β (bf.dl [] [(8,.v (ab h.mem.length bE.1)),(12,.v (ab h.buf.length ey.1)),(15,.v (ab h.ar.length aK.ar.1))] 2 []) ac w) (fq:ai w0 aa u N ff h.buf ey) (ak:ai w0 aa u N bI h.mem bE) (CF:J ff bI) (an:cZ a_ ba N u) (aL:cr bf.ay.length bg β):W 5 (cc 14 [0,1,2,3,4,5,6,8,9]) ac w:=by
   refine jC aO 7 12 ?_ (S.fv aO an aL [] .nil fun _ _ _ S bU=>P7 _ _ ey ff bE bI _ _ _ S fq ak CF an bU)
   refine id (S.jq (α:=a0) (d:=13) (by kernel_rfl) fun ac w N ajN VT S up ahN xr=>?_)
   have Iq:=fun b h=>(⟨(up b (an b h).1).1,(up b (an b h).1).2.trans (an b h).2,xr b (an b h).1⟩:_/\_/\_)
   refine ao.dA S (fun b h=>⟨(Iq b h).1,(Iq b h).2.1⟩) aL fun bx=>?_
   have CG:=J.w xr ak.sub
   have OJ:=J.w xr fq.sub
   replace ak:=ak.up up
   replace fq:=fq.up up
   clear up xr
   exact S.dp aO [] bx fun _ S=>P6 _ _ ey ff ajN VT bE bI _ _ _ S fq ahN ak OJ CF (J.symm CG) Iq aL
  have HT ac w eA c5 bE bI b3 cm u N β (S:aj Tryz.prog Tryz.f47.ntmps w0 aa u N β (bf.dl [] [(8,.v (ab h.mem.length bE.1)),(9,.v (ab 0 b3.1)),(11,.v (ab h.buf.length aK.buf.1)),(13,.v (ab 0 eA.1)),(15,.v (ab h.ar.length aK.ar.1))] 2 []) ac w) (bY:ai w0 aa u N c5 ([]:List a0) eA) (ak:ai w0 aa u N bI h.mem bE) (aT:ai w0 aa u N cm ([]:List a0) b3) (tw:J c5 bI) (xt:J c5 cm) (CH:J bI cm) (an:∀b,a_ b->N b/\u.heap[b]? =ba.heap[b]? /\¬cm b/\¬c5 b) (aL:cr bf.ay.length bg β):W 5 (cc 14 [0,1,2,3,4,5,7,8,9]) ac w:=by
   refine jC aO 6 12 ?_ (S.fv aO (fun b h=>⟨(an b h).1,(an b h).2.1⟩) aL [] .nil fun _ _ _ S bU=>Dk _ _ eA c5 bE bI b3 cm _ _ _ S bY ak aT tw xt CH an bU)
   have ano:h.buf.length<=4194304:=ag.le (a4.buf (d:=h) (S.arg ax))
   refine id (S.pR (α:=a0) aT (a4.buf (d:=h) (S.arg ax)) (fun _ _ h=>h) (by':=32) (d:=12) (lx:=0) (ly:=h.buf.length) rfl fun ac w N LM Na S up K_ xu=>?_)
   have Ir:=fun b h=>(⟨(up b (an b h).1 (an b h).2.2.1).1,(up b (an b h).1 (an b h).2.2.1).2.trans (an b h).2.1,(an b h).2.2.2⟩:_/\_/\_)
   refine ao.dA S (fun b h=>⟨(Ir b h).1,(Ir b h).2.1⟩) aL fun bx=>?_
   have CI:=xu _ CH ak.sub
   have OK:=xu _ xt bY.sub
   replace ak:=ak.bp CH up
   replace bY:=bY.bp xt up
   clear up xu
   exact S.dp aO [] bx fun _ S=>P6 _ _ LM Na eA c5 bE bI _ _ _ S K_ bY ak (J.symm OK) (J.symm CI) tw Ir aL
  have HU ac w bE bI b3 cm u N β (S:aj Tryz.prog Tryz.f47.ntmps w0 aa u N β (bf.dl [] [(3,.p 2 0),(8,.v (ab h.mem.length bE.1)),(9,.v (ab 0 b3.1)),(11,.v (ab h.buf.length aK.buf.1)),(15,.v (ab h.ar.length aK.ar.1))] 3 [(2,c2 ad)]) ac w) (ak:ai w0 aa u N bI h.mem bE) (aT:ai w0 aa u N cm ([]:List a0) b3) (vo:J bI cm) (an:∀b,a_ b->N b/\u.heap[b]? =ba.heap[b]? /\¬cm b) (aL:cr bf.ay.length bg β):W 5 (cc 14 [0,1,2,3,4,5,8,9,12]) ac w:=by
   refine jC aO 6 7 ?_ ?_
   ·have anp:h.buf.length<=4194304:=ag.le (a4.buf (d:=h) (S.arg ax))
    refine id (S.pR (α:=a0) aT (a4.buf (d:=h) (S.arg ax)) (fun _ _ h=>h) (by':=32) (d:=12) (lx:=0) (ly:=h.buf.length) rfl fun ac w N ajQ VU S up ahS zJ=>?_)
    have Q0:=fun b h=>(⟨(up b (an b h).1 (an b h).2.2).1,(up b (an b h).1 (an b h).2.2).2.trans (an b h).2.1⟩:_/\_)
    refine ao.dA S Q0 aL fun bx=>?_
    have pZ:=zJ _ vo ak.sub
    replace ak:=ak.bp vo up
    clear up zJ
    exact S.dp aO [] bx fun _ S=>P7 _ _ ajQ VU bE bI _ _ _ S ahS ak (J.symm pZ) Q0 aL
   ·refine id (S.jq (α:=a0) (d:=13) (by kernel_rfl) fun ac w N ajR VV S up ahT CJ=>?_)
    have Is:=fun b h=>(⟨(up b (an b h).1).1,(up b (an b h).1).2.trans (an b h).2.1,(an b h).2.2,CJ b (an b h).1⟩:_/\_/\_/\_)
    refine ao.dA S (fun b h=>⟨(Is b h).1,(Is b h).2.1⟩) aL fun bx=>?_
    have ZK:=J.w CJ ak.sub
    have ZL:=J.w CJ aT.sub
    replace ak:=ak.up up
    replace aT:=aT.up up
    clear up CJ
    exact S.dp aO [] bx fun _ S=>Dk _ _ ajR VV bE bI b3 cm _ _ _ S ahT ak aT (J.symm ZK) (J.symm ZL) vo Is aL
  have HW ac w eA c5 bE bI u N β (S:aj Tryz.prog Tryz.f47.ntmps w0 aa u N β (bf.dl [] [(3,.p 2 0),(8,.v (ab h.mem.length bE.1)),(11,.v (ab h.buf.length aK.buf.1)),(13,.v (ab 0 eA.1)),(15,.v (ab h.ar.length aK.ar.1))] 3 [(2,c2 ad)]) ac w) (bY:ai w0 aa u N c5 ([]:List a0) eA) (ak:ai w0 aa u N bI h.mem bE) (vp:J c5 bI) (an:∀b,a_ b->N b/\u.heap[b]? =ba.heap[b]? /\¬c5 b) (aL:cr bf.ay.length bg β):W 5 (cc 14 [0,1,2,4,5,7,8,9,12]) ac w:=by
   refine eJ aO 3 ?_
   refine id (S.jq (α:=a0) (d:=9) (by kernel_rfl) fun ac w N ajS VX S up ahV CK=>?_)
   have It:=fun b h=>(⟨(up b (an b h).1).1,(up b (an b h).1).2.trans (an b h).2.1,CK b (an b h).1,(an b h).2.2⟩:_/\_/\_/\_)
   refine ao.dA S (fun b h=>⟨(It b h).1,(It b h).2.1⟩) aL fun bx=>?_
   have GB:=J.w CK ak.sub
   have CL:=J.w CK bY.sub
   replace ak:=ak.up up
   replace bY:=bY.up up
   clear up CK
   exact S.dp aO [] bx fun _ S=>Dk _ _ eA c5 bE bI ajS VX _ _ _ S bY ak ahV vp CL GB It aL
  have HX ac w eA c5 b3 cm u N β (S:aj Tryz.prog Tryz.f47.ntmps w0 aa u N β (bf.dl [] [(3,.p 2 0),(7,.v (ab h.mem.length aK.mem.1)),(9,.v (ab 0 b3.1)),(11,.v (ab h.buf.length aK.buf.1)),(13,.v (ab 0 eA.1)),(15,.v (ab h.ar.length aK.ar.1))] 3 [(2,c2 ad)]) ac w) (bY:ai w0 aa u N c5 ([]:List a0) eA) (aT:ai w0 aa u N cm ([]:List a0) b3) (GC:J c5 cm) (an:∀b,a_ b->N b/\u.heap[b]? =ba.heap[b]? /\¬cm b/\¬c5 b) (aL:cr bf.ay.length bg β):W 5 (cc 14 [0,1,3,4,5,7,8,9,12]) ac w:=by
   refine eJ aO 2 ?_
   refine id (S.cH 8 (o3 w h.mem aK.mem (S.rd (a4.mem (d:=h) (S.arg ax)))) fun ac w N ajT VY S up ahW GD=>?_)
   have Iu:=fun b h=>(⟨(up b (an b h).1).1,(up b (an b h).1).2.trans (an b h).2.1,(an b h).2.2.1,(an b h).2.2.2⟩:_/\_/\_/\_)
   refine ao.dA S (fun b h=>⟨(Iu b h).1,(Iu b h).2.1⟩) aL fun bx=>?_
   have ZN:=J.w GD aT.sub
   have ZO:=J.w GD bY.sub
   replace aT:=aT.up up
   replace bY:=bY.up up
   clear up GD
   exact S.dp aO [] bx fun _ S=>Dk _ _ eA c5 ajT VY b3 cm _ _ _ S bY ahW aT ZO GC (J.symm ZN) Iu aL
  have P_ ac w bE bI b3 cm u N β (S:aj Tryz.prog Tryz.f47.ntmps w0 aa u N β (bf.dl [] [(8,.v (ab h.mem.length bE.1)),(9,.v (ab 0 b3.1)),(11,.v (ab h.buf.length aK.buf.1)),(15,.v (ab h.ar.length aK.ar.1))] 2 []) ac w) (ak:ai w0 aa u N bI h.mem bE) (aT:ai w0 aa u N cm ([]:List a0) b3) (CM:J bI cm) (an:∀b,a_ b->N b/\u.heap[b]? =ba.heap[b]? /\¬cm b) (aL:cr bf.ay.length bg β):W 6 (cc 14 [0,1,2,3,4,5,8,9]) ac w:=by
   refine wu aO 6 7 12 ?_ ?_ (S.fv aO (fun b h=>⟨(an b h).1,(an b h).2.1⟩) aL [] .nil fun _ _ _ S bU=>HU _ _ bE bI b3 cm _ _ _ S ak aT CM an bU)
   ·have anr:h.buf.length<=4194304:=ag.le (a4.buf (d:=h) (S.arg ax))
    refine id (S.pR (α:=a0) aT (a4.buf (d:=h) (S.arg ax)) (fun _ _ h=>h) (by':=32) (d:=12) (lx:=0) (ly:=h.buf.length) rfl fun ac w N ajU VZ S up ahX ON=>?_)
    have Q2:=fun b h=>(⟨(up b (an b h).1 (an b h).2.2).1,(up b (an b h).1 (an b h).2.2).2.trans (an b h).2.1⟩:_/\_)
    refine ao.dA S Q2 aL fun bx=>?_
    have ZP:=ON _ CM ak.sub
    replace ak:=ak.bp CM up
    clear up ON
    exact S.dp aO [] bx fun _ S=>adp _ _ ajU VZ bE bI _ _ _ S ahX ak (J.symm ZP) Q2 aL
   ·refine id (S.jq (α:=a0) (d:=13) (by kernel_rfl) fun ac w N ajV V0 S up ahY xw=>?_)
    have Iv:=fun b h=>(⟨(up b (an b h).1).1,(up b (an b h).1).2.trans (an b h).2.1,(an b h).2.2,xw b (an b h).1⟩:_/\_/\_/\_)
    refine ao.dA S (fun b h=>⟨(Iv b h).1,(Iv b h).2.1⟩) aL fun bx=>?_
    have ZS:=J.w xw ak.sub
    have ZT:=J.w xw aT.sub
    replace ak:=ak.up up
    replace aT:=aT.up up
    clear up xw
    exact S.dp aO [] bx fun _ S=>HT _ _ ajV V0 bE bI b3 cm _ _ _ S ahY ak aT (J.symm ZS) (J.symm ZT) CM Iv aL
  have Qa ac w eA c5 bE bI u N β (S:aj Tryz.prog Tryz.f47.ntmps w0 aa u N β (bf.dl [] [(8,.v (ab h.mem.length bE.1)),(11,.v (ab h.buf.length aK.buf.1)),(13,.v (ab 0 eA.1)),(15,.v (ab h.ar.length aK.ar.1))] 2 []) ac w) (bY:ai w0 aa u N c5 ([]:List a0) eA) (ak:ai w0 aa u N bI h.mem bE) (OO:J c5 bI) (an:∀b,a_ b->N b/\u.heap[b]? =ba.heap[b]? /\¬c5 b) (aL:cr bf.ay.length bg β):W 6 (cc 14 [0,1,2,4,5,7,8,9]) ac w:=by
   refine jC aO 3 12 ?_ (S.fv aO (fun b h=>⟨(an b h).1,(an b h).2.1⟩) aL [] .nil fun _ _ _ S bU=>HW _ _ eA c5 bE bI _ _ _ S bY ak OO an bU)
   refine id (S.jq (α:=a0) (d:=9) (by kernel_rfl) fun ac w N ajW V1 S up ah1 CO=>?_)
   have Iw:=fun b h=>(⟨(up b (an b h).1).1,(up b (an b h).1).2.trans (an b h).2.1,CO b (an b h).1,(an b h).2.2⟩:_/\_/\_/\_)
   refine ao.dA S (fun b h=>⟨(Iw b h).1,(Iw b h).2.1⟩) aL fun bx=>?_
   have ZU:=J.w CO ak.sub
   have xx:=J.w CO bY.sub
   replace ak:=ak.up up
   replace bY:=bY.up up
   clear up CO
   exact S.dp aO [] bx fun _ S=>HT _ _ eA c5 bE bI ajW V1 _ _ _ S bY ak ah1 OO xx ZU Iw aL
  have Qb ac w bE bI u N β (S:aj Tryz.prog Tryz.f47.ntmps w0 aa u N β (bf.dl [] [(3,.p 2 0),(8,.v (ab h.mem.length bE.1)),(11,.v (ab h.buf.length aK.buf.1)),(15,.v (ab h.ar.length aK.ar.1))] 3 [(2,c2 ad)]) ac w) (ak:ai w0 aa u N bI h.mem bE) (an:cZ a_ ba N u) (aL:cr bf.ay.length bg β):W 6 (cc 14 [0,1,2,4,5,8,9,12]) ac w:=by
   refine jC aO 3 7 ?_ ?_
   ·refine id (S.jq (α:=a0) (d:=9) (by kernel_rfl) fun ac w N ajX V2 S up ah2 GF=>?_)
    have Ix:=fun b h=>(⟨(up b (an b h).1).1,(up b (an b h).1).2.trans (an b h).2,GF b (an b h).1⟩:_/\_/\_)
    refine ao.dA S (fun b h=>⟨(Ix b h).1,(Ix b h).2.1⟩) aL fun bx=>?_
    have zK:=J.w GF ak.sub
    replace ak:=ak.up up
    clear up GF
    exact S.dp aO [] bx fun _ S=>HU _ _ bE bI ajX V2 _ _ _ S ak ah2 zK Ix aL
   ·refine id (S.jq (α:=a0) (d:=13) (by kernel_rfl) fun ac w N ajY V3 S up ah3 GG=>?_)
    have Iy:=fun b h=>(⟨(up b (an b h).1).1,(up b (an b h).1).2.trans (an b h).2,GG b (an b h).1⟩:_/\_/\_)
    refine ao.dA S (fun b h=>⟨(Iy b h).1,(Iy b h).2.1⟩) aL fun bx=>?_
    have vq:=J.w GG ak.sub
    replace ak:=ak.up up
    clear up GG
    exact S.dp aO [] bx fun _ S=>HW _ _ ajY V3 bE bI _ _ _ S ah3 ak (J.symm vq) Iy aL
  have Qc ac w eA c5 b3 cm u N β (S:aj Tryz.prog Tryz.f47.ntmps w0 aa u N β (bf.dl [] [(7,.v (ab h.mem.length aK.mem.1)),(9,.v (ab 0 b3.1)),(11,.v (ab h.buf.length aK.buf.1)),(13,.v (ab 0 eA.1)),(15,.v (ab h.ar.length aK.ar.1))] 2 []) ac w) (bY:ai w0 aa u N c5 ([]:List a0) eA) (aT:ai w0 aa u N cm ([]:List a0) b3) (OP:J c5 cm) (an:∀b,a_ b->N b/\u.heap[b]? =ba.heap[b]? /\¬cm b/\¬c5 b) (aL:cr bf.ay.length bg β):W 6 (cc 14 [0,1,3,4,5,7,8,9]) ac w:=by
   refine jC aO 2 12 ?_ (S.fv aO (fun b h=>⟨(an b h).1,(an b h).2.1⟩) aL [] .nil fun _ _ _ S bU=>HX _ _ eA c5 b3 cm _ _ _ S bY aT OP an bU)
   refine id (S.cH 8 (o3 w h.mem aK.mem (S.rd (a4.mem (d:=h) (S.arg ax)))) fun ac w N ajZ V5 S up ah5 xy=>?_)
   have Iz:=fun b h=>(⟨(up b (an b h).1).1,(up b (an b h).1).2.trans (an b h).2.1,(an b h).2.2.1,(an b h).2.2.2⟩:_/\_/\_/\_)
   refine ao.dA S (fun b h=>⟨(Iz b h).1,(Iz b h).2.1⟩) aL fun bx=>?_
   have GH:=J.w xy aT.sub
   have GI:=J.w xy bY.sub
   replace aT:=aT.up up
   replace bY:=bY.up up
   clear up xy
   exact S.dp aO [] bx fun _ S=>HT _ _ eA c5 ajZ V5 b3 cm _ _ _ S bY ah5 aT GI OP (J.symm GH) Iz aL
  have Qd ac w b3 cm u N β (S:aj Tryz.prog Tryz.f47.ntmps w0 aa u N β (bf.dl [] [(3,.p 2 0),(7,.v (ab h.mem.length aK.mem.1)),(9,.v (ab 0 b3.1)),(11,.v (ab h.buf.length aK.buf.1)),(15,.v (ab h.ar.length aK.ar.1))] 3 [(2,c2 ad)]) ac w) (aT:ai w0 aa u N cm ([]:List a0) b3) (an:∀b,a_ b->N b/\u.heap[b]? =ba.heap[b]? /\¬cm b) (aL:cr bf.ay.length bg β):W 6 (cc 14 [0,1,3,4,5,8,9,12]) ac w:=by
   refine jC aO 2 7 ?_ ?_
   ·refine id (S.cH 8 (o3 w h.mem aK.mem (S.rd (a4.mem (d:=h) (S.arg ax)))) fun ac w N aj0 V6 S up ah6 OQ=>?_)
    have IA:=fun b h=>(⟨(up b (an b h).1).1,(up b (an b h).1).2.trans (an b h).2.1,(an b h).2.2⟩:_/\_/\_)
    refine ao.dA S (fun b h=>⟨(IA b h).1,(IA b h).2.1⟩) aL fun bx=>?_
    have ZY:=J.w OQ aT.sub
    replace aT:=aT.up up
    clear up OQ
    exact S.dp aO [] bx fun _ S=>HU _ _ aj0 V6 b3 cm _ _ _ S ah6 aT (J.symm ZY) IA aL
   ·refine id (S.jq (α:=a0) (d:=13) (by kernel_rfl) fun ac w N aj1 V7 S up ah7 GJ=>?_)
    have IB:=fun b h=>(⟨(up b (an b h).1).1,(up b (an b h).1).2.trans (an b h).2.1,(an b h).2.2,GJ b (an b h).1⟩:_/\_/\_/\_)
    refine ao.dA S (fun b h=>⟨(IB b h).1,(IB b h).2.1⟩) aL fun bx=>?_
    have ZZ:=J.w GJ aT.sub
    replace aT:=aT.up up
    clear up GJ
    exact S.dp aO [] bx fun _ S=>HX _ _ aj1 V7 b3 cm _ _ _ S ah7 aT (J.symm ZZ) IB aL
  have Qe ac w eA c5 u N β (S:aj Tryz.prog Tryz.f47.ntmps w0 aa u N β (bf.dl [] [(3,.p 2 0),(7,.v (ab h.mem.length aK.mem.1)),(11,.v (ab h.buf.length aK.buf.1)),(13,.v (ab 0 eA.1)),(15,.v (ab h.ar.length aK.ar.1))] 3 [(2,c2 ad)]) ac w) (bY:ai w0 aa u N c5 ([]:List a0) eA) (an:∀b,a_ b->N b/\u.heap[b]? =ba.heap[b]? /\¬c5 b) (aL:cr bf.ay.length bg β):W 6 (cc 14 [0,1,4,5,7,8,9,12]) ac w:=by
   refine jC aO 2 3 ?_ ?_
   ·refine id (S.cH 8 (o3 w h.mem aK.mem (S.rd (a4.mem (d:=h) (S.arg ax)))) fun ac w N aj3 V8 S up ah8 CQ=>?_)
    have IC:=fun b h=>(⟨(up b (an b h).1).1,(up b (an b h).1).2.trans (an b h).2.1,(an b h).2.2⟩:_/\_/\_)
    refine ao.dA S (fun b h=>⟨(IC b h).1,(IC b h).2.1⟩) aL fun bx=>?_
    have GK:=J.w CQ bY.sub
    replace bY:=bY.up up
    clear up CQ
    exact S.dp aO [] bx fun _ S=>HW _ _ eA c5 aj3 V8 _ _ _ S bY ah8 GK IC aL
   ·refine id (S.jq (α:=a0) (d:=9) (by kernel_rfl) fun ac w N aj4 V9 S up ah_ GL=>?_)
    have ID:=fun b h=>(⟨(up b (an b h).1).1,(up b (an b h).1).2.trans (an b h).2.1,GL b (an b h).1,(an b h).2.2⟩:_/\_/\_/\_)
    refine ao.dA S (fun b h=>⟨(ID b h).1,(ID b h).2.1⟩) aL fun bx=>?_
    have Z3:=J.w GL bY.sub
    replace bY:=bY.up up
    clear up GL
    exact S.dp aO [] bx fun _ S=>HX _ _ eA c5 aj4 V9 _ _ _ S bY ah_ Z3 ID aL
  have adw ac w bE bI u N β (S:aj Tryz.prog Tryz.f47.ntmps w0 aa u N β (bf.dl [] [(8,.v (ab h.mem.length bE.1)),(11,.v (ab h.buf.length aK.buf.1)),(15,.v (ab h.ar.length aK.ar.1))] 2 []) ac w) (ak:ai w0 aa u N bI h.mem bE) (an:cZ a_ ba N u) (aL:cr bf.ay.length bg β):W 7 (cc 14 [0,1,2,4,5,8,9]) ac w:=by
   refine wu aO 3 7 12 ?_ ?_ (S.fv aO an aL [] .nil fun _ _ _ S bU=>Qb _ _ bE bI _ _ _ S ak an bU)
   ·refine id (S.jq (α:=a0) (d:=9) (by kernel_rfl) fun ac w N aj5 Wa S up aic GM=>?_)
    have IE:=fun b h=>(⟨(up b (an b h).1).1,(up b (an b h).1).2.trans (an b h).2,GM b (an b h).1⟩:_/\_/\_)
    refine ao.dA S (fun b h=>⟨(IE b h).1,(IE b h).2.1⟩) aL fun bx=>?_
    have Z4:=J.w GM ak.sub
    replace ak:=ak.up up
    clear up GM
    exact S.dp aO [] bx fun _ S=>P_ _ _ bE bI aj5 Wa _ _ _ S ak aic Z4 IE aL
   ·refine id (S.jq (α:=a0) (d:=13) (by kernel_rfl) fun ac w N aj6 Wb S up aid zM=>?_)
    have IF:=fun b h=>(⟨(up b (an b h).1).1,(up b (an b h).1).2.trans (an b h).2,zM b (an b h).1⟩:_/\_/\_)
    refine ao.dA S (fun b h=>⟨(IF b h).1,(IF b h).2.1⟩) aL fun bx=>?_
    have Z7:=J.w zM ak.sub
    replace ak:=ak.up up
    clear up zM
    exact S.dp aO [] bx fun _ S=>Qa _ _ aj6 Wb bE bI _ _ _ S aid ak (J.symm Z7) IF aL
  have ady ac w b3 cm u N β (S:aj Tryz.prog Tryz.f47.ntmps w0 aa u N β (bf.dl [] [(7,.v (ab h.mem.length aK.mem.1)),(9,.v (ab 0 b3.1)),(11,.v (ab h.buf.length aK.buf.1)),(15,.v (ab h.ar.length aK.ar.1))] 2 []) ac w) (aT:ai w0 aa u N cm ([]:List a0) b3) (an:∀b,a_ b->N b/\u.heap[b]? =ba.heap[b]? /\¬cm b) (aL:cr bf.ay.length bg β):W 7 (cc 14 [0,1,3,4,5,8,9]) ac w:=by
   refine wu aO 2 7 12 ?_ ?_ (S.fv aO (fun b h=>⟨(an b h).1,(an b h).2.1⟩) aL [] .nil fun _ _ _ S bU=>Qd _ _ b3 cm _ _ _ S aT an bU)
   ·refine id (S.cH 8 (o3 w h.mem aK.mem (S.rd (a4.mem (d:=h) (S.arg ax)))) fun ac w N aj7 Wc S up aie OS=>?_)
    have IG:=fun b h=>(⟨(up b (an b h).1).1,(up b (an b h).1).2.trans (an b h).2.1,(an b h).2.2⟩:_/\_/\_)
    refine ao.dA S (fun b h=>⟨(IG b h).1,(IG b h).2.1⟩) aL fun bx=>?_
    have Z8:=J.w OS aT.sub
    replace aT:=aT.up up
    clear up OS
    exact S.dp aO [] bx fun _ S=>P_ _ _ aj7 Wc b3 cm _ _ _ S aie aT (J.symm Z8) IG aL
   ·refine id (S.jq (α:=a0) (d:=13) (by kernel_rfl) fun ac w N Ug Wd S up aif GN=>?_)
    have IH:=fun b h=>(⟨(up b (an b h).1).1,(up b (an b h).1).2.trans (an b h).2.1,(an b h).2.2,GN b (an b h).1⟩:_/\_/\_/\_)
    refine ao.dA S (fun b h=>⟨(IH b h).1,(IH b h).2.1⟩) aL fun bx=>?_
    have Z9:=J.w GN aT.sub
    replace aT:=aT.up up
    clear up GN
    exact S.dp aO [] bx fun _ S=>Qc _ _ Ug Wd b3 cm _ _ _ S aif aT (J.symm Z9) IH aL
  have adz ac w eA c5 u N β (S:aj Tryz.prog Tryz.f47.ntmps w0 aa u N β (bf.dl [] [(7,.v (ab h.mem.length aK.mem.1)),(11,.v (ab h.buf.length aK.buf.1)),(13,.v (ab 0 eA.1)),(15,.v (ab h.ar.length aK.ar.1))] 2 []) ac w) (bY:ai w0 aa u N c5 ([]:List a0) eA) (an:∀b,a_ b->N b/\u.heap[b]? =ba.heap[b]? /\¬c5 b) (aL:cr bf.ay.length bg β):W 7 (cc 14 [0,1,4,5,7,8,9]) ac w:=by
   refine wu aO 2 3 12 ?_ ?_ (S.fv aO (fun b h=>⟨(an b h).1,(an b h).2.1⟩) aL [] .nil fun _ _ _ S bU=>Qe _ _ eA c5 _ _ _ S bY an bU)
   ·refine id (S.cH 8 (o3 w h.mem aK.mem (S.rd (a4.mem (d:=h) (S.arg ax)))) fun ac w N aj8 We S up aih CS=>?_)
    have II:=fun b h=>(⟨(up b (an b h).1).1,(up b (an b h).1).2.trans (an b h).2.1,(an b h).2.2⟩:_/\_/\_)
    refine ao.dA S (fun b h=>⟨(II b h).1,(II b h).2.1⟩) aL fun bx=>?_
    have aab:=J.w CS bY.sub
    replace bY:=bY.up up
    clear up CS
    exact S.dp aO [] bx fun _ S=>Qa _ _ eA c5 aj8 We _ _ _ S bY aih aab II aL
   ·refine id (S.jq (α:=a0) (d:=9) (by kernel_rfl) fun ac w N aj9 Wf S up aij GO=>?_)
    have IJ:=fun b h=>(⟨(up b (an b h).1).1,(up b (an b h).1).2.trans (an b h).2.1,GO b (an b h).1,(an b h).2.2⟩:_/\_/\_/\_)
    refine ao.dA S (fun b h=>⟨(IJ b h).1,(IJ b h).2.1⟩) aL fun bx=>?_
    have aac:=J.w GO bY.sub
    replace bY:=bY.up up
    clear up GO
    exact S.dp aO [] bx fun _ S=>Qc _ _ eA c5 aj9 Wf _ _ _ S bY aij aac IJ aL
  have adA ac w u N β (S:aj Tryz.prog Tryz.f47.ntmps w0 aa u N β (bf.dl [] [(3,.p 2 0),(7,.v (ab h.mem.length aK.mem.1)),(11,.v (ab h.buf.length aK.buf.1)),(15,.v (ab h.ar.length aK.ar.1))] 3 [(2,c2 ad)]) ac w) (an:cZ a_ ba N u) (aL:cr bf.ay.length bg β):W 7 (cc 14 [0,1,4,5,8,9,12]) ac w:=by
   refine wu aO 2 3 7 ?_ ?_ ?_
   ·refine id (S.cH 8 (o3 w h.mem aK.mem (S.rd (a4.mem (d:=h) (S.arg ax)))) fun ac w N aj_ Wg S up ail aad=>?_)
    have Q4:=fun b h=>(⟨(up b (an b h).1).1,(up b (an b h).1).2.trans (an b h).2⟩:_/\_)
    refine ao.dA S Q4 aL fun bx=>?_
    clear up aad
    exact S.dp aO [] bx fun _ S=>Qb _ _ aj_ Wg _ _ _ S ail Q4 aL
   ·refine id (S.jq (α:=a0) (d:=9) (by kernel_rfl) fun ac w N aka Nc S up La vr=>?_)
    have IK:=fun b h=>(⟨(up b (an b h).1).1,(up b (an b h).1).2.trans (an b h).2,vr b (an b h).1⟩:_/\_/\_)
    refine ao.dA S (fun b h=>⟨(IK b h).1,(IK b h).2.1⟩) aL fun bx=>?_
    clear up vr
    exact S.dp aO [] bx fun _ S=>Qd _ _ aka Nc _ _ _ S La IK aL
   ·refine id (S.jq (α:=a0) (d:=13) (by kernel_rfl) fun ac w N akb Wh S up aim OT=>?_)
    have IL:=fun b h=>(⟨(up b (an b h).1).1,(up b (an b h).1).2.trans (an b h).2,OT b (an b h).1⟩:_/\_/\_)
    refine ao.dA S (fun b h=>⟨(IL b h).1,(IL b h).2.1⟩) aL fun bx=>?_
    clear up OT
    exact S.dp aO [] bx fun _ S=>Qe _ _ akb Wh _ _ _ S aim IL aL
  have an:cZ a_ ba a_ ba:=fun b h=>⟨h,rfl⟩
  have aL:cr bf.ay.length bg bg:=fun _ _=>rfl
  refine aiW aO 2 3 7 12 ?_ ?_ ?_ (S.fv aO an aL [] .nil fun _ _ _ S bU=>adA _ _ _ _ _ S an bU)
  ·refine id (S.cH 8 (o3 w h.mem aK.mem (S.rd (a4.mem (d:=h) (S.arg ax)))) fun ac w N akc Wi S up aio aah=>?_)
   have Q5:=fun b h=>(⟨(up b (an b h).1).1,(up b (an b h).1).2.trans (an b h).2⟩:_/\_)
   refine ao.dA S Q5 aL fun bx=>?_
   clear up aah
   exact S.dp aO [] bx fun _ S=>adw _ _ akc Wi _ _ _ S aio Q5 aL
  ·refine id (S.jq (α:=a0) (d:=9) (by kernel_rfl) fun ac w N akd Wj S up aip OU=>?_)
   have IM:=fun b h=>(⟨(up b (an b h).1).1,(up b (an b h).1).2.trans (an b h).2,OU b (an b h).1⟩:_/\_/\_)
   refine ao.dA S (fun b h=>⟨(IM b h).1,(IM b h).2.1⟩) aL fun bx=>?_
   clear up OU
   exact S.dp aO [] bx fun _ S=>ady _ _ akd Wj _ _ _ S aip IM aL
  ·refine id (S.jq (α:=a0) (d:=13) (by kernel_rfl) fun ac w N ake Nd S up Lb OV=>?_)
   have IN:=fun b h=>(⟨(up b (an b h).1).1,(up b (an b h).1).2.trans (an b h).2,OV b (an b h).1⟩:_/\_/\_)
   refine ao.dA S (fun b h=>⟨(IN b h).1,(IN b h).2.1⟩) aL fun bx=>?_
   clear up OV
   exact S.dp aO [] bx fun _ S=>adz _ _ ake Nd _ _ _ S Lb IN aL
 clear S
 rintro ac w ⟨ey,ff,ji,kx,bE,bI,u,N,β,S,fq,kK,ak,aaj,aak,aal⟩
 refine S.ex fun S=>?_
 refine S.go 11 .nil fun ac w β S=>?_
 have TF:=S.hp (α:=aZ)
 refine ek (fun bG ac w=>∃(i:Nat) (acc:List aZ) (yK:_) (y8:_) (u:_) (N:_) (β:_),bG=h.I.length-i/\(i<=h.I.length)/\(acc=h.I.take i)/\aj Tryz.prog Tryz.f47.ntmps w0 aa u N β ⟨[(2,.p 1 0),(3,.p 2 0),(19,.v (ab h.I.length aK.I.1)),(20,.v (R (h.I.length:Int))),(21,.v (R (i:Int)))],[GT.cells h aK,c2 ad,[ab h.mem.length bE.1,ab acc.length yK.1,ab h.buf.length ey.1,ab h.ar.length ji.1]]⟩ ac w/\ai w0 aa u N y8 acc yK/\ai w0 aa u N bI h.mem bE/\ai w0 aa u N ff h.buf ey/\ai w0 aa u N kx h.ar ji/\J y8 bI/\J y8 ff/\J y8 kx) _ ⟨0,([]:List aZ),(GT.bL (α:=List aZ)),aa,_,_,_,rfl,cL,(by rfl),S.z,TF,ak,fq,kK,(J.symm (fun b _ h=>False.elim h)),(J.symm (fun b _ h=>False.elim h)),(J.symm (fun b _ h=>False.elim h))⟩ ?_
 clear S kK TF ak fq
 rintro aaZ bG aeq ac w ⟨i,acc,yK,y8,u,N,β,rfl,hi,cD,S,uB,ak,fq,kK,GP,GQ,GR⟩
 refine S.rs fun S=>?_
 have lH:acc.length=i:=by rw [cD];simp;omega
 refine S.a8 6 .nil (decide ((i:Int)<(h.I.length:Int))) (fun ac w β acR abM S=>?_) (fun ac w β acR abM S=>?_)
 ·refine S.go 13 (.cons (cA (a4.I (d:=h) (S.arg ax)) i Tryz.underlying34) (.cons (dR (a4.I (d:=h) (S.arg ax)) 71 i) .nil)) fun ac w β S=>?_
  refine dj ?_
  refine S.df (f:=8) 5 (by kernel_rfl) (by kernel_rfl) fun w S=>?_
  refine S.aI 0 [1,0] [] [(25,.p 2 1)] .nil fun ac S=>?_
  refine S.aI 1 [1] [] [(26,.v (ab acc.length yK.1))] .nil fun ac S=>?_
  refine S.aI 2 [3,2] [] [(27,.v (GT.val (el h.I i) (aK.I.2 i)))] .nil fun ac S=>?_
  refine ao.one (i:=3) (by kernel_rfl) ?_
  refine id (S.cH 28 (Oj w (el h.I i) (aK.I.2 i) (S.rd (ag.el (a4.I (d:=h) (S.arg ax)) i (by omega)))) fun ac w N akf amW S up Lc xz=>?_)
  refine ao.next S up (by kernel_rfl) ?_
  have aan:=J.w xz uB.sub
  have aao:=J.w xz ak.sub
  have aap:=J.w xz fq.sub
  have aaq:=J.w xz kK.sub
  replace uB:=uB.up up
  replace ak:=ak.up up
  replace fq:=fq.up up
  replace kK:=kK.up up
  clear up xz
  refine ao.one (i:=4) (by kernel_rfl) ?_
  refine id (S.pT (α:=aZ) (x:=(el h.I i)) (p:=akf) Lc.own Lc.sub Lc.cU (d:=29) (by kernel_rfl) fun ac w N arV amX S up ait vs=>?_)
  refine ao.next S up (by kernel_rfl) ?_
  have CT:=vs _ aan uB.sub
  have GS:=vs _ aao ak.sub
  have GU:=vs _ aap fq.sub
  have aas:=vs _ aaq kK.sub
  replace uB:=uB.up up
  replace ak:=ak.up up
  replace fq:=fq.up up
  replace kK:=kK.up up
  clear up vs
  refine ao.one (i:=5) (by kernel_rfl) ?_
  refine id (S.vf (α:=aZ) uB ait CT (by':=168) (d:=30) (lx:=acc.length) (ly:=1) rfl rfl (by kernel_rfl) (show _<=4194304 by simp only [List.length_append,List.length_cons,List.length_nil];omega) fun ac w N Uk Wk S up aiu CU=>?_)
  refine ao.last (by kernel_rfl) ?_
  have aat:=CU _ (J.symm GP) GS ak.sub
  have aau:=CU _ (J.symm GQ) GU fq.sub
  have aav:=CU _ (J.symm GR) aas kK.sub
  replace ak:=ak.bp (J.symm GP) up
  replace fq:=fq.bp (J.symm GQ) up
  replace kK:=kK.bp (J.symm GR) up
  clear up CU
  refine S.b8 6 [] [(31,.p 2 1)] 4 [] .nil fun ac w β S=>?_
  refine S.b8 7 [] [] 4 [(2,[ab h.mem.length bE.1,ab (acc++[(el h.I i)]).length Uk.1,ab h.buf.length ey.1,ab h.ar.length ji.1])] .nil fun ac w β S=>?_
  refine ao.done (by kernel_rfl) ?_ _
  refine S.ex fun S=>?_
  refine S.ge 6 (.cons (cO (i:Int) 1) .nil) aaZ fun ac w β S=>aeq.of (h.I.length-(i+1)) _ _ (by omega) ⟨i+1,(acc++[(el h.I i)]),Uk,Wk,_,_,_,rfl,?_,?_,S.z,aiu,ak,fq,kK,(J.symm aat),(J.symm aau),(J.symm aav)⟩
  ·exact dn
  ·clear S;(first|(rw [iH (by omega),cD];done)|(rw [iH (by omega),cD];simp;done))
 refine S.aP 13 .nil [GT.val (⟨h.mem,acc,h.buf,h.ar⟩:ad) (⟨bE,yK,ey,ji⟩:cK)] fun ac w β S=>?_
 have aiv:=hz (x:=(⟨h.mem,acc,h.buf,h.ar⟩:ad)) (p:=(⟨bE,yK,ey,ji⟩:cK)) ak uB fq kK (J.symm GP) (J.symm aak) (J.symm aal) GQ GR aaj
 exact cT S (show h=(⟨h.mem,acc,h.buf,h.ar⟩:ad) by clear S;(rw [cD,fj (by omega)];first|done|rfl|(simp;done))) rfl aiv
theorem gJ (w0:World) (k:Int) (length:Int) (jh:-9223372036854775808<length):Calls Tryz.prog 61 [R k,R length].toArray w0 (fun e w'=>e= .returned (B (aS k 0 (length-1)))/\bX aa w0 w'):=by
 refine Calls.run aa Tryz.func61 ?_
 intro ac β S
 refine S.a8 10 .nil (decide (k>=0)) (fun ac w β h1 bM S=>?_) (fun ac w β h1 bM S=>?_)
 ·exact S.bb 8 .nil [B (decide (k<length))] (b4 (by clear S;(rw [Bool.eq_iff_iff];simp [aS];omega)))
 exact S.bb 8 .nil [B false] (b4 (by clear S;(rw [Bool.eq_iff_iff];simp [aS];omega)))
theorem D0 {p:Prop} (h:p:=by clear S;(first|(unfold aC;rw [if_pos (by omega)])|(unfold aC;rw [if_neg (by omega)]))):p:=h
theorem Cs (w0:World) (h:ad) (aK:cK) (ax:br w0 h aK) (m:Int):Calls Tryz.prog 59 [GT.val h aK,R m].toArray w0 (fG aa w0 ((aC h m).1:aZ) ((aC h m).2:Bool)):=by
 refine Calls.run aa Tryz.func59 ?_
 intro ac β S
 have gO:h.mem.length<=4194304:=ag.le (a4.mem (d:=h) ax)
 have gP:h.I.length<=4194304:=ag.le (a4.I (d:=h) ax)
 have gM:h.buf.length<=4194304:=ag.le (a4.buf (d:=h) ax)
 have gN:h.ar.length<=4194304:=ag.le (a4.ar (d:=h) ax)
 refine S.bs 18 (.cons (aY fun w hw=>gJ w m (h.I.length:Int) (by omega)) .nil) (!(aS m 0 ((h.I.length:Int)-1))) (fun ac w β h1 S=>?_) (fun ac w β h1 S=>?_)
 ·have ah:=cw h1
  have c3:=dC ah
  refine S.aP 9 (.cons (dY (s:=Instr.build 71 [].toArray) (v:= .agg [ab ([]:List aA).length (GT.bL (α:=List aA)).1,ab ([]:List (List Int)).length (GT.bL (α:=List (List Int))).1,ab ([]:List Bool).length (GT.bL (α:=List Bool)).1,ab ([]:List az).length (GT.bL (α:=List az)).1,ab ([]:List Int).length (GT.bL (α:=List Int)).1,R 0,R 0,ab ([]:List bO).length (GT.bL (α:=List bO)).1,R 0].toArray) (fun w=>by kernel_rfl)) .nil) [GT.val (⟨([]:List aA),([]:List (List Int)),([]:List Bool),([]:List az),([]:List Int),0,0,([]:List bO),0⟩:aZ) (⟨(GT.bL (α:=List aA)),(GT.bL (α:=List (List Int))),(GT.bL (α:=List Bool)),(GT.bL (α:=List az)),(GT.bL (α:=List Int)),(GT.bL (α:=List bO))⟩:g6),B false] fun ac w β S=>?_
  have eY:=S.hp (α:=aA)
  have cG:=S.hp (α:=List Int)
  have a1:=S.hp (α:=Bool)
  have ak:=S.hp (α:=az)
  have bS:=S.hp (α:=Int)
  have a6:=S.hp (α:=bO)
  have eR:=Bd (x:=(⟨([]:List aA),([]:List (List Int)),([]:List Bool),([]:List az),([]:List Int),0,0,([]:List bO),0⟩:aZ)) (p:=(⟨(GT.bL (α:=List aA)),(GT.bL (α:=List (List Int))),(GT.bL (α:=List Bool)),(GT.bL (α:=List az)),(GT.bL (α:=List Int)),(GT.bL (α:=List bO))⟩:g6)) eY cG a1 ak bS a6 (fun b _ h=>False.elim h) (fun b _ h=>False.elim h) (fun b _ h=>False.elim h) (fun b _ h=>False.elim h) (fun b _ h=>False.elim h) (fun b _ h=>False.elim h) (fun b _ h=>False.elim h) (fun b _ h=>False.elim h) (fun b _ h=>False.elim h) (fun b _ h=>False.elim h) (fun b _ h=>False.elim h) (fun b _ h=>False.elim h) (fun b _ h=>False.elim h) (fun b _ h=>False.elim h) (fun b _ h=>False.elim h) (show aq 0 from⟨by decide,by decide⟩) (show aq 0 from⟨by decide,by decide⟩) (show aq 0 from⟨by decide,by decide⟩)
  exact cB (p':=()) S D0 D0 rfl rfl eR trivial
 have gp:=cl h1
 have q9:=cM gp
 refine S.go 10 (.cons (cP (a4.I (d:=h) (S.arg ax)) m Tryz.underlying34) (.cons (dR (a4.I (d:=h) (S.arg ax)) 71 m.toNat) .nil)) fun ac w β S=>S.ct (r:=(el h.I m.toNat)) (d:=18) (Oj w (el h.I m.toNat) (aK.I.2 m.toNat) (S.rd (ag.el (a4.I (d:=h) (S.arg ax)) m.toNat (by omega)))) fun ac w N ic e3 S up aT d16=>?_
 clear up d16
 refine S.aP 5 .nil [GT.val (el h.I m.toNat) ic,B true] fun ac w β S=>?_
 exact cB (p':=()) S D0 D0 rfl rfl aT trivial
theorem SD {p:Prop} (h:p:=by clear S;first|rfl|(simp [aS, *];done)|(simp [aS, *];omega)|(simp_all [aS];done)|(simp_all [aS];omega)):p:=h
theorem fU (w0:World) (n:Int) (a:Int) (b:Int):Calls Tryz.prog 101 [R n,R a,R b].toArray w0 (fun e w'=>e= .returned (B (aS n a b))/\bX aa w0 w'):=by
 refine Calls.run aa Tryz.func101 ?_
 intro ac β S
 refine S.a8 11 .nil (decide (n>=a)) (fun ac w β h1 bM S=>?_) (fun ac w β h1 bM S=>?_)
 ·exact S.bb 8 .nil [B (decide (n<=b))] (b4 SD)
 exact S.bb 8 .nil [B false] (b4 SD)
theorem Gc (w0:World) (cells:List Int) (sU:af Int) (vQ:br w0 cells sU):Calls Tryz.prog 178 [ab cells.length sU.1].toArray w0 (fun e w'=>e= .returned (B (iR cells))/\bX aa w0 w'):=by
 refine Calls.run aa Tryz.func178 ?_
 intro ac β S
 have aeH:cells.length<=4194304:=ag.le vQ
 refine S.go 14 .nil fun ac w β S=>?_
 refine ek (fun bG ac w=>∃(k:Nat) (u:_) (N:_) (β:_),bG=cells.length-k/\(k<=cells.length)/\((cells.take k).all (fun v=>aS v 0 99)=true)/\aj Tryz.prog Tryz.f178.ntmps w0 aa u N β ⟨[(0,.v (ab cells.length sU.1)),(5,.v (ab cells.length sU.1)),(6,.v (R (cells.length:Int))),(7,.v (R (k:Int)))],[]⟩ ac w) _ ⟨0,_,_,_,rfl,cL,(by simp),S.z⟩ ?_
 clear S
 rintro f1 bG mc ac w ⟨k,u,N,β,rfl,hk,he,S⟩
 refine S.rs fun S=>?_
 refine S.a8 6 .nil (decide ((k:Int)<(cells.length:Int))) (fun ac w β aE ej S=>?_) (fun ac w β aE ej S=>?_)
 ·refine S.bs 19 (.cons (cA (S.arg vQ) k Tryz.underlying28) (.cons (cn (S.arg vQ) 3 k) (.cons (aY fun w hw=>fU w (el cells k) 0 99) .nil))) (!(aS (el cells k) 0 99)) (fun ac w β cf S=>?_) (fun ac w β cf S=>?_)
  ·have dU:=cw cf
   have tS:=dC dU
   exact S.bb 7 .nil [B false] (b4 (by clear S;(first|(unfold iR;rw [ti (k:=k) (by omega) (by first|assumption|simp_all)];simp;done)|(unfold iR;rw [iK (by omega) he];simp;done)|(unfold iR;rw [iK (by omega) he];simp [*];done)|(unfold iR;rw [iK (by omega) he];simp;omega))))
  have e_:=cl cf
  have l_:=cM e_
  refine S.ge 8 (.cons (cO (k:Int) 1) .nil) f1 fun ac w β S=>mc.of (cells.length-(k+1)) _ _ (by omega) ⟨k+1,_,_,_,rfl,?_,?_,S.z⟩
  ·exact dn
  ·clear S;exact w8 (by omega) he (by first|assumption|(simp only [fz,aS] at*;simp_all;done)|(simp_all;done)|(simp_all;omega))
 exact S.bb 15 .nil [B ((cells.length:Int)==4)] (b4 (by clear S;(first|(unfold iR;rw [iK (by omega) he];simp;done)|(unfold iR;rw [iK (by omega) he];simp [*];done)|(unfold iR;rw [iK (by omega) he];simp;omega)|(unfold iR;rw [ti (k:=k) (by omega) (by first|assumption|simp_all)];simp;done))))
theorem Oa (w0:World) (m:List (List Int)) (pm:af (List Int)) (hm:br w0 m pm) (fi:Int):Calls Tryz.prog 119 [ab m.length pm.1,R fi].toArray w0 (fun e w'=>e= .returned (B (iy m fi))/\bX aa w0 w'):=by
 refine Calls.run aa Tryz.func119 ?_
 intro ac β S
 have Aw:m.length<=4194304:=ag.le hm
 refine S.go 14 .nil fun ac w β S=>?_
 refine ek (fun bG ac w=>∃(k:Nat) (u:_) (N:_) (β:_),bG=m.length-k/\(k<=m.length)/\((m.take k).all iR=true)/\aj Tryz.prog Tryz.f119.ntmps w0 aa u N β ⟨[(0,.v (ab m.length pm.1)),(1,.v (R fi)),(7,.v (ab m.length pm.1)),(8,.v (R (m.length:Int))),(9,.v (R (k:Int)))],[]⟩ ac w) _ ⟨0,_,_,_,rfl,cL,(by simp),S.z⟩ ?_
 clear S
 rintro f1 bG mc ac w ⟨k,u,N,β,rfl,hk,he,S⟩
 refine S.rs fun S=>?_
 refine S.a8 6 .nil (decide ((k:Int)<(m.length:Int))) (fun ac w β aE ej S=>?_) (fun ac w β aE ej S=>?_)
 ·refine S.bs 19 (.cons (cA (S.arg hm) k Tryz.underlying33) (.cons (cn (S.arg hm) 28 k) (.cons (aY fun w hw=>Gc w (el m k) (pm.2 k) (cQ (ag.el (S.arg hm) k (by omega)) hw)) .nil))) (!(iR (el m k))) (fun ac w β cf S=>?_) (fun ac w β cf S=>?_)
  ·have dU:=cw cf
   exact S.bb 7 .nil [B false] (b4 (by clear S;(first|(unfold iy;rw [ti (k:=k) (by omega) (by first|assumption|simp_all)];simp;done)|(unfold iy;rw [iK (by omega) he];simp;done)|(unfold iy;rw [iK (by omega) he];simp [*];done)|(unfold iy;rw [iK (by omega) he];simp;omega))))
  have eH:=cl cf
  refine S.ge 8 (.cons (cO (k:Int) 1) .nil) f1 fun ac w β S=>mc.of (m.length-(k+1)) _ _ (by omega) ⟨k+1,_,_,_,rfl,?_,?_,S.z⟩
  ·exact dn
  ·clear S;exact w8 (by omega) he (by first|assumption|(simp only [fz,aS] at*;simp_all;done)|(simp_all;done)|(simp_all;omega))
 exact S.bb 16 .nil [B ((m.length:Int)==fi)] (b4 (by clear S;(first|(unfold iy;rw [iK (by omega) he];simp;done)|(unfold iy;rw [iK (by omega) he];simp [*];done)|(unfold iy;rw [iK (by omega) he];simp;omega)|(unfold iy;rw [ti (k:=k) (by omega) (by first|assumption|simp_all)];simp;done))))
theorem Sn {p:Prop} (h:p:=by clear S;(first|(unfold lD;rw [show b.length=i by omega,he];first|rfl|(simp [*];done)|(simp;omega)|(rw [Bool.eq_iff_iff];simp;omega))|(unfold lD;rw [Uy (k:=i) (by omega) (Uy (k:=k) (by omega) (by simp_all<;>fail))];rfl))):p:=h
theorem NZ (w0:World) (b:List a0) (aQ:af a0) (hb:br w0 b aQ):Calls Tryz.prog 120 [ab b.length aQ.1].toArray w0 (fun e w'=>e= .returned (B (lD b))/\bX aa w0 w'):=by
 refine Calls.run aa Tryz.func120 ?_
 intro ac β S
 have pg:b.length<=4194304:=ag.le hb
 refine S.go 14 .nil fun ac w β S=>?_
 refine ek (fun bG ac w=>∃(i:Nat) (u:_) (N:_) (β:_),bG=b.length-i/\(i<=b.length)/\((List.range i).all (fun i=>(List.range i).all fun k=>!(decide ((el b i).tag=(el b k).tag)&&decide ((el b i).page=(el b k).page)))=true)/\aj Tryz.prog Tryz.f120.ntmps w0 aa u N β ⟨[(0,.v (ab b.length aQ.1)),(7,.v (ab b.length aQ.1)),(8,.v (R (b.length:Int))),(9,.v (R (i:Int)))],[]⟩ ac w) _ ⟨0,_,_,_,rfl,cL,(by rfl),S.z⟩ ?_
 clear S
 rintro f1 bG mc ac w ⟨i,u,N,β,rfl,hi,he,S⟩
 refine S.rs fun S=>?_
 refine S.a8 6 .nil (decide ((i:Int)<(b.length:Int))) (fun ac w β aE ej S=>?_) (fun ac w β aE ej S=>?_)
 ·have af1:(b.take i).length=i-0:=by first|(simp;done)|(simp;omega)
  refine S.go 25 (.cons (cA (S.arg hb) i Tryz.underlying35) (.cons (dR (S.arg hb) 177 i) (.cons (vb (S.arg hb) (l:=b.length) (a:=0) (b:=i) rfl (.inl ⟨rfl,rfl⟩) (.inr rfl) (by omega) (by omega) Tryz.underlying35 (by kernel_rfl)) .nil))) fun ac w β S=>?_
  refine ek (fun bG ac w=>∃(k:Nat) (u:_) (N:_) (β:_),bG=i-k/\(k<=i)/\((List.range k).all (fun k=>!(decide ((el b i).tag=(el b k).tag)&&decide ((el b i).page=(el b k).page)))=true)/\aj Tryz.prog Tryz.f120.ntmps w0 aa u N β ⟨[(0,.v (ab b.length aQ.1)),(4,.p 0 0),(7,.v (ab b.length aQ.1)),(8,.v (R (b.length:Int))),(9,.v (R (i:Int))),(16,.v (ab i (aQ.1.b8 0 4))),(17,.v (R (i:Int))),(18,.v (R (k:Int)))],[GT.cells (el b i) ()]⟩ ac w) _ ⟨0,_,_,_,rfl,cL,(by rfl),S.z⟩ ?_
  clear S
  rintro f6 bG Dt ac w ⟨k,u,N,β,rfl,hk,qe,S⟩
  refine S.rs fun S=>?_
  have GZ:k<i->el (b.take i) k=el b k:=fun h=>C1 h
  refine S.a8 6 .nil (decide ((k:Int)<(i:Int))) (fun ac w β e_ l_ S=>?_) (fun ac w β e_ l_ S=>?_)
  ·refine S.a8 21 (.cons (qN (show GT.rd bz _ _ (b.take i) ((aQ.1.b8 0 4,fun i=>aQ.2 (0+i)):af a0) from pJ (S.arg hb) (a:=0) (b:=i) (by omega) (by omega)) (l:=i) (k:=k) (i:=(k:Int)) (by omega) rfl (by omega) Tryz.underlying35 (by kernel_rfl)) (.cons (dR (show GT.rd bz _ _ (b.take i) ((aQ.1.b8 0 4,fun i=>aQ.2 (0+i)):af a0) from pJ (S.arg hb) (a:=0) (b:=i) (by omega) (by omega)) 177 k) .nil)) ((el b i).tag==(el (b.take i) k).tag) (fun ac w β dq fM S=>?_) (fun ac w β dq fM S=>?_)
   ·refine S.a8 8 .nil ((el b i).page==(el (b.take i) k).page) (fun ac w β eU l9 S=>?_) (fun ac w β eU l9 S=>?_)
    ·exact S.bb 7 .nil [B false] (b4 Sn)
    refine S.ge 8 (.cons (cO (k:Int) 1) .nil) f6 fun ac w β S=>Dt.of (i-(k+1)) _ _ (by omega) ⟨k+1,_,_,_,rfl,?_,?_,S.z⟩
    ·exact dn
    ·clear S;(refine Br qe ?_;simp_all)
   refine S.ge 16 (.cons (cO (k:Int) 1) .nil) f6 fun ac w β S=>Dt.of (i-(k+1)) _ _ (by omega) ⟨k+1,_,_,_,rfl,?_,?_,S.z⟩
   ·exact dn
   ·clear S;(refine Br qe ?_;simp_all)
  refine S.ge 11 (.cons (cO (i:Int) 1) .nil) f1 fun ac w β S=>mc.of (b.length-(i+1)) _ _ (by omega) ⟨i+1,_,_,_,rfl,?_,?_,S.z⟩
  ·exact dn
  ·clear S;(refine Br he ?_);(have e:k=i:=(by omega));rw [e] at qe;exact qe
 exact S.bb 15 .nil [B (decide ((b.length:Int)<=6))] (b4 Sn)
theorem D2 {p:Prop} (h:p:=by clear S;first|rfl|(simp [fz, *];done)|(simp [fz, *];omega)|(simp_all [fz];done)|(simp_all [fz];omega)):p:=h
theorem Od (w0:World) (s:aA) (fi:Int) (jh:0<=fi) (oM:fi<=1000):Calls Tryz.prog 146 [GT.val s (),R fi].toArray w0 (fun e w'=>e= .returned (B (fz s fi))/\bX aa w0 w'):=by
 refine Calls.run aa Tryz.func146 ?_
 intro ac β S
 refine S.go 7 .nil fun ac w β S=>?_
 refine dj ?_
 rcases Bool.eq_false_or_eq_true (decide (s=(⟨-1,0⟩:aA))) with h1|h1
 ·refine S.CZ [(3,true)] (keep:=[4]) (m:=0) (σ':=⟨[(4,.v (B true))],[]⟩) (.cons (aY fun w hw=>m5 w) (.cons (y4 (t:=77) s (⟨-1,0⟩:aA) (by kernel_rfl)) .nil)) rfl (by kernel_rfl) (by kernel_rfl) (.cons h1 .nil) fun ac w S=>?_
  refine S.ex fun S=>?_
  exact S.bb 2 .nil [B true] (b4 D2)
 ·rcases Bool.eq_false_or_eq_true (decide (fi>0)) with ah|ah
  ·have c3:=of_decide_eq_true ah
   rcases Bool.eq_false_or_eq_true (aS s.page 0 (fi-1)) with b2|b2
   ·have gb:=cM b2
    refine S.CZ [(3,false),(6,true),(13,true)] (keep:=[4]) (m:=0) (σ':=⟨[(4,.v (B (aS s.bW 1 3)))],[]⟩) (.cons (aY fun w hw=>m5 w) (.cons (y4 (t:=77) s (⟨-1,0⟩:aA) (by kernel_rfl)) (.cons (pI fi 1) (.cons (aY fun w hw=>fU w s.page 0 (fi-1)) (.cons (aY fun w hw=>fU w s.bW 1 3) .nil))))) rfl (by kernel_rfl) (by kernel_rfl) (.cons h1 (.cons ah (.cons b2 .nil))) fun ac w S=>?_
    refine S.ex fun S=>?_
    exact S.bb 2 .nil [B (aS s.bW 1 3)] (b4 D2)
   ·have gn:=dC b2
    refine S.CZ [(3,false),(6,true),(13,false)] (keep:=[4]) (m:=0) (σ':=⟨[(4,.v (B false))],[]⟩) (.cons (aY fun w hw=>m5 w) (.cons (y4 (t:=77) s (⟨-1,0⟩:aA) (by kernel_rfl)) (.cons (pI fi 1) (.cons (aY fun w hw=>fU w s.page 0 (fi-1)) .nil)))) rfl (by kernel_rfl) (by kernel_rfl) (.cons h1 (.cons ah (.cons b2 .nil))) fun ac w S=>?_
    refine S.ex fun S=>?_
    exact S.bb 2 .nil [B false] (b4 D2)
  ·have tS:=of_decide_eq_false ah
   refine S.CZ [(3,false),(6,false)] (keep:=[4]) (m:=0) (σ':=⟨[(4,.v (B false))],[]⟩) (.cons (aY fun w hw=>m5 w) (.cons (y4 (t:=77) s (⟨-1,0⟩:aA) (by kernel_rfl)) .nil)) rfl (by kernel_rfl) (by kernel_rfl) (.cons h1 (.cons ah .nil)) fun ac w S=>?_
   refine S.ex fun S=>?_
   exact S.bb 2 .nil [B false] (b4 D2)
theorem Ge (w0:World) (t:List aA) (aM:af aA) (bC:br w0 t aM) (size:Int) (fi:Int) (jh:0<=fi) (oM:fi<=1000):Calls Tryz.prog 179 [ab t.length aM.1,R size,R fi].toArray w0 (fun e w'=>e= .returned (B (h7 t size fi))/\bX aa w0 w'):=by
 refine Calls.run aa Tryz.func179 ?_
 intro ac β S
 have Dy:t.length<=4194304:=ag.le bC
 refine S.go 14 .nil fun ac w β S=>?_
 refine ek (fun bG ac w=>∃(k:Nat) (u:_) (N:_) (β:_),bG=t.length-k/\(k<=t.length)/\((t.take k).all (fun s=>fz s fi)=true)/\aj Tryz.prog Tryz.f179.ntmps w0 aa u N β ⟨[(0,.v (ab t.length aM.1)),(1,.v (R size)),(2,.v (R fi)),(9,.v (ab t.length aM.1)),(10,.v (R (t.length:Int))),(11,.v (R (k:Int)))],[]⟩ ac w) _ ⟨0,_,_,_,rfl,cL,(by simp),S.z⟩ ?_
 clear S
 rintro f1 bG mc ac w ⟨k,u,N,β,rfl,hk,he,S⟩
 refine S.rs fun S=>?_
 refine S.a8 6 .nil (decide ((k:Int)<(t.length:Int))) (fun ac w β aE ej S=>?_) (fun ac w β aE ej S=>?_)
 ·refine S.bs 21 (.cons (cA (S.arg bC) k Tryz.underlying66) (.cons (dR (S.arg bC) 77 k) (.cons (aY fun w hw=>Od w (el t k) fi (by omega) (by omega)) .nil))) (!(fz (el t k) fi)) (fun ac w β cf S=>?_) (fun ac w β cf S=>?_)
  ·have dU:=cw cf
   exact S.bb 7 .nil [B false] (b4 (by clear S;(first|(unfold h7;rw [ti (k:=k) (by omega) (by first|assumption|simp_all)];simp;done)|(unfold h7;rw [iK (by omega) he];simp;done)|(unfold h7;rw [iK (by omega) he];simp [*];done)|(unfold h7;rw [iK (by omega) he];simp;omega))))
  have eH:=cl cf
  refine S.ge 8 (.cons (cO (k:Int) 1) .nil) f1 fun ac w β S=>mc.of (t.length-(k+1)) _ _ (by omega) ⟨k+1,_,_,_,rfl,?_,?_,S.z⟩
  ·exact dn
  ·clear S;exact w8 (by omega) he (by first|assumption|(simp only [fz,aS] at*;simp_all;done)|(simp_all;done)|(simp_all;omega))
 exact S.bb 16 .nil [B ((t.length:Int)==size)] (b4 (by clear S;(first|(unfold h7;rw [iK (by omega) he];simp;done)|(unfold h7;rw [iK (by omega) he];simp [*];done)|(unfold h7;rw [iK (by omega) he];simp;omega)|(unfold h7;rw [ti (k:=k) (by omega) (by first|assumption|simp_all)];simp;done))))
theorem zr (w0:World) (p:Int):Calls Tryz.prog 180 [R p].toArray w0 (fun e w'=>e= .returned (B (aS p 0 255))/\bX aa w0 w'):=by
 refine Calls.run aa Tryz.func180 ?_
 intro ac β S
 exact S.bb 13 (.cons (aY fun w hw=>fU w p 0 255) .nil) [B (aS p 0 255)] (b4 (by clear S;first|rfl|(simp [aS, *];done)|(simp [aS, *];omega)|(simp_all [aS];done)|(simp_all [aS];omega)))
theorem sE {p:Prop} (h:p:=by clear S;first|rfl|(simp [tG, *];done)|(simp [tG, *];omega)|(simp_all [tG];done)|(simp_all [tG];omega)):p:=h
theorem X9 (w0:World) (i:cE):Calls Tryz.prog 207 [GT.val i ()].toArray w0 (fun e w'=>e= .returned (B (tG i))/\bX aa w0 w'):=by
 refine Calls.run aa Tryz.func207 ?_
 intro ac β S
 refine S.a8 21 .nil (i.hv==1) (fun ac w β h1 bM S=>?_) (fun ac w β h1 bM S=>?_)
 ·exact S.bb 13 (.cons (aY fun w hw=>fU w i.x 0 99) .nil) [B (aS i.x 0 99)] (b4 sE)
 refine S.a8 7 .nil (i.hv==2) (fun ac w β aE ej S=>?_) (fun ac w β aE ej S=>?_)
 ·exact S.bb 13 (.cons (aY fun w hw=>fU w i.x 0 99) .nil) [B (aS i.x 0 99)] (b4 sE)
 refine S.a8 7 .nil (i.hv==5) (fun ac w β cf gn S=>?_) (fun ac w β cf gn S=>?_)
 ·exact S.bb 13 (.cons (aY fun w hw=>fU w i.x 0 99) .nil) [B (aS i.x 0 99)] (b4 sE)
 refine S.a8 6 .nil (i.hv==6) (fun ac w β eH nP S=>?_) (fun ac w β eH nP S=>?_)
 ·exact S.bb 10 (.cons (aY fun w hw=>fU w i.x 0 99) .nil) [B (aS i.x 0 99)] (b4 sE)
 refine S.a8 8 .nil (i.hv==3) (fun ac w β gd p9 S=>?_) (fun ac w β gd p9 S=>?_)
 ·exact S.bb 13 (.cons (aY fun w hw=>fU w i.x 0 15) .nil) [B (aS i.x 0 15)] (b4 sE)
 refine S.a8 6 .nil (i.hv==4) (fun ac w β gp q9 S=>?_) (fun ac w β gp q9 S=>?_)
 ·exact S.bb 10 (.cons (aY fun w hw=>fU w i.x 0 15) .nil) [B (aS i.x 0 15)] (b4 sE)
 refine S.a8 7 .nil (i.hv==7) (fun ac w β ni xO S=>?_) (fun ac w β ni xO S=>?_)
 ·exact S.bb 10 .nil [B (i.x==0)] (b4 sE)
 refine S.a8 7 .nil (i.hv==8) (fun ac w β rb tO S=>?_) (fun ac w β rb tO S=>?_)
 ·exact S.bb 10 (.cons (aY fun w hw=>fU w i.x 0 11) .nil) [B (aS i.x 0 11)] (b4 sE)
 exact S.bb 10 .nil [B false] (b4 sE)
theorem Yl (w0:World) (p:List cE) (pp:af cE) (a2:br w0 p pp):Calls Tryz.prog 202 [ab p.length pp.1].toArray w0 (fun e w'=>e= .returned (B (p7 p))/\bX aa w0 w'):=by
 refine Calls.run aa Tryz.func202 ?_
 intro ac β S
 have Rz:p.length<=4194304:=ag.le a2
 refine S.go 14 .nil fun ac w β S=>?_
 refine ek (fun bG ac w=>∃(k:Nat) (u:_) (N:_) (β:_),bG=p.length-k/\(k<=p.length)/\((p.take k).all tG=true)/\aj Tryz.prog Tryz.f202.ntmps w0 aa u N β ⟨[(0,.v (ab p.length pp.1)),(5,.v (ab p.length pp.1)),(6,.v (R (p.length:Int))),(7,.v (R (k:Int)))],[]⟩ ac w) _ ⟨0,_,_,_,rfl,cL,(by simp),S.z⟩ ?_
 clear S
 rintro f1 bG mc ac w ⟨k,u,N,β,rfl,hk,he,S⟩
 refine S.rs fun S=>?_
 refine S.a8 6 .nil (decide ((k:Int)<(p.length:Int))) (fun ac w β aE ej S=>?_) (fun ac w β aE ej S=>?_)
 ·refine S.bs 20 (.cons (cA (S.arg a2) k Tryz.underlying98) (.cons (dR (S.arg a2) 158 k) (.cons (aY fun w hw=>X9 w (el p k)) .nil))) (!(tG (el p k))) (fun ac w β cf S=>?_) (fun ac w β cf S=>?_)
  ·have dU:=cw cf
   exact S.bb 7 .nil [B false] (b4 (by clear S;(first|(unfold p7;rw [ti (k:=k) (by omega) (by first|assumption|simp_all)];simp;done)|(unfold p7;rw [iK (by omega) he];simp;done)|(unfold p7;rw [iK (by omega) he];simp [*];done)|(unfold p7;rw [iK (by omega) he];simp;omega))))
  have eH:=cl cf
  refine S.ge 8 (.cons (cO (k:Int) 1) .nil) f1 fun ac w β S=>mc.of (p.length-(k+1)) _ _ (by omega) ⟨k+1,_,_,_,rfl,?_,?_,S.z⟩
  ·exact dn
  ·clear S;exact w8 (by omega) he (by first|assumption|(simp only [fz,aS] at*;simp_all;done)|(simp_all;done)|(simp_all;omega))
 exact S.bb 15 (.cons (aY fun w hw=>fU w (p.length:Int) 1 12) .nil) [B (aS (p.length:Int) 1 12)] (b4 (by clear S;(first|(unfold p7;rw [iK (by omega) he];simp;done)|(unfold p7;rw [iK (by omega) he];simp [*];done)|(unfold p7;rw [iK (by omega) he];simp;omega)|(unfold p7;rw [ti (k:=k) (by omega) (by first|assumption|simp_all)];simp;done))))
theorem XD (w0:World) (c:eM):Calls Tryz.prog 188 [GT.val c ()].toArray w0 (dZ aa w0 (tD c:List Int)):=by
 refine Calls.run aa Tryz.func188 ?_
 intro ac β S
 refine S.go 8 .nil fun ac w β S=>S.gx (α:=Int) (d:=4) fun ac w N ae aX S up au d4=>?_
 clear up d4
 refine S.go 12 (.cons (aY fun w hw=>fU w c.bQ 0 3) .nil) fun ac w β S=>?_
 refine m6 S (fun ac w=>∃(th:List Int) (bZ:_) (b7:_) (u:_) (N:_) (β:_),(th=(if aS c.bQ 0 3 then [] else [1]))/\aj Tryz.prog Tryz.f188.ntmps w0 aa u N β ⟨[(1,.p 0 0),(3,.v (ab th.length bZ.1))],[GT.cells c ()]⟩ ac w/\ai w0 aa u N b7 th bZ) ?_ ?_
 ·clear S;intro S
  refine S.bs 0 .nil (!(aS c.bQ 0 3)) (fun ac w β e_ S=>?_) (fun ac w β e_ S=>?_)
  ·have gd:=cw e_
   have p9:=dC gd
   refine S.go 3 .nil fun ac w β S=>S.hB (α:=Int) (x:=1) (p:=()) (F:=aa) (show aq 1 from⟨by decide,by decide⟩) (fun b h=>False.elim h) (fun b h=>False.elim h) (d:=10) fun ac w N oO mY S up fa d14=>?_
   replace au:=au.up up
   clear up d14
   refine S.nH (α:=Int) au fa.al (fun _ _ h=>h) (by':=8) (d:=11) (lx:=0) (ly:=1) rfl fun ac w N b3 cm S up gR d19=>?_
   clear up d19
   exact S.e5 2 .nil fun ac w β S=>⟨rfl,([1]),b3,cm,_,_,_,(by clear S;(first|(rw [if_pos (by assumption)];simp [*];done)|(rw [if_neg (by simp [*])];simp [*];done)|((repeat' split)<;>first|rfl|(simp;done)|(exfalso;simp_all;done)|(simp_all;done)))),S.z,gR⟩
  have iU:=cl e_
  have o9:=cM iU
  exact S.e5 2 .nil fun ac w β S=>⟨rfl,([]:List Int),ae,aX,_,_,_,(by clear S;(first|(rw [if_pos (by assumption)];simp [*];done)|(rw [if_neg (by simp [*])];simp [*];done)|((repeat' split)<;>first|rfl|(simp;done)|(exfalso;simp_all;done)|(simp_all;done)))),S.z,au⟩
 clear S au
 rintro ac w ⟨th,bZ,b7,u,N,β,H3,S,ak⟩
 have apC:th.length<=1:=by rw [H3];(repeat' split)<;>simp
 refine S.ex fun S=>?_
 refine S.go 10 (.cons (aY fun w hw=>fU w c.post 0 255) .nil) fun ac w β S=>?_
 refine m6 S (fun ac w=>∃(rZ:List Int) (e0:_) (k7:_) (u:_) (N:_) (β:_),(rZ=(if aS c.bQ 0 3 then [] else [1])++(if aS c.post 0 255 then [] else [2]))/\aj Tryz.prog Tryz.f188.ntmps w0 aa u N β ⟨[(1,.p 0 0),(3,.v (ab rZ.length e0.1))],[GT.cells c ()]⟩ ac w/\ai w0 aa u N k7 rZ e0) ?_ ?_
 ·clear S;intro S
  refine S.bs 0 .nil (!(aS c.post 0 255)) (fun ac w β iV S=>?_) (fun ac w β iV S=>?_)
  ·have nj:=cw iV
   have xP:=dC nj
   refine S.go 3 .nil fun ac w β S=>S.hB (α:=Int) (x:=2) (p:=()) (F:=aa) (show aq 2 from⟨by decide,by decide⟩) (fun b h=>False.elim h) (fun b h=>False.elim h) (d:=17) fun ac w N jE mw S up fN d32=>?_
   replace ak:=ak.up up
   clear up d32
   refine S.kj (α:=Int) ak fN.al (fun _ _ h=>h) (by':=8) (d:=18) (lx:=th.length) (ly:=1) rfl rfl (show _<=4194304 by simp only [List.length_append,List.length_cons,List.length_nil];omega) fun ac w N fc kU S up hO d37=>?_
   clear up d37
   exact S.e5 2 .nil fun ac w β S=>⟨rfl,(th++[2]),fc,kU,_,_,_,(by clear S;(first|(rw [if_pos (by assumption)];simp [*];done)|(rw [if_neg (by simp [*])];simp [*];done)|(rw [H3];(repeat' split)<;>first|rfl|(simp;done)|(exfalso;simp_all;done)|(simp_all;done)))),S.z,hO⟩
  have rf:=cl iV
  have De:=cM rf
  exact S.e5 2 .nil fun ac w β S=>⟨rfl,th,bZ,b7,_,_,_,(by clear S;(first|(rw [if_pos (by assumption)];simp [*];done)|(rw [if_neg (by simp [*])];simp [*];done)|(rw [H3];(repeat' split)<;>first|rfl|(simp;done)|(exfalso;simp_all;done)|(simp_all;done)))),S.z,ak⟩
 clear S ak
 rintro ac w ⟨rZ,e0,k7,u,N,β,Dm,S,eI⟩
 have tY:rZ.length<=2:=by rw [Dm];(repeat' split)<;>simp
 refine S.ex fun S=>?_
 refine S.a8 8 .nil (c.post != 0) (fun ac w β nQ PH S=>?_) (fun ac w β nQ PH S=>?_)
 ·refine S.go 6 .nil fun ac w β S=>?_
  refine m6 S (fun ac w=>∃(mz:List Int) (mo:_) (lW:_) (u:_) (N:_) (β:_),(mz=(if aS c.bQ 0 3 then [] else [1])++(if aS c.post 0 255 then [] else [2])++(if c.post≠0/\c.lL=false then [3] else []))/\aj Tryz.prog Tryz.f188.ntmps w0 aa u N β ⟨[(1,.p 0 0),(3,.v (ab mz.length mo.1))],[GT.cells c ()]⟩ ac w/\ai w0 aa u N lW mz mo) ?_ ?_
  ·clear S;intro S
   refine S.bs 0 .nil (!c.lL) (fun ac w β nn S=>?_) (fun ac w β nn S=>?_)
   ·have pc:=cw nn
    refine S.go 3 .nil fun ac w β S=>S.hB (α:=Int) (x:=3) (p:=()) (F:=aa) (show aq 3 from⟨by decide,by decide⟩) (fun b h=>False.elim h) (fun b h=>False.elim h) (d:=28) fun ac w N Ui B2 S up il d51=>?_
    replace eI:=eI.up up
    clear up d51
    refine S.kj (α:=Int) eI il.al (fun _ _ h=>h) (by':=8) (d:=29) (lx:=rZ.length) (ly:=1) rfl rfl (show _<=4194304 by simp only [List.length_append,List.length_cons,List.length_nil];omega) fun ac w N oQ lX S up jA d56=>?_
    clear up d56
    exact S.e5 2 .nil fun ac w β S=>⟨rfl,(rZ++[3]),oQ,lX,_,_,_,(by clear S;(first|(rw [if_pos (by assumption)];simp [*];done)|(rw [if_neg (by simp [*])];simp [*];done)|(rw [Dm];(repeat' split)<;>first|rfl|(simp;done)|(exfalso;simp_all;done)|(simp_all;done)))),S.z,jA⟩
   have z7:=cl nn
   exact S.e5 2 .nil fun ac w β S=>⟨rfl,rZ,e0,k7,_,_,_,(by clear S;(first|(rw [if_pos (by assumption)];simp [*];done)|(rw [if_neg (by simp [*])];simp [*];done)|(rw [Dm];(repeat' split)<;>first|rfl|(simp;done)|(exfalso;simp_all;done)|(simp_all;done)))),S.z,eI⟩
  clear S eI
  rintro ac w ⟨mz,mo,lW,u,N,β,vN,S,fu⟩
  have aeE:mz.length<=3:=by rw [vN];(repeat' split)<;>simp
  refine S.ex fun S=>?_
  refine S.a8 8 .nil (c.bQ==2) (fun ac w β z8 abR S=>?_) (fun ac w β z8 abR S=>?_)
  ·refine S.go 6 .nil fun ac w β S=>?_
   refine m6 S (fun ac w=>∃(hW:List Int) (pH:_) (pP:_) (u:_) (N:_) (β:_),(hW=(if aS c.bQ 0 3 then [] else [1])++(if aS c.post 0 255 then [] else [2])++(if c.post≠0/\c.lL=false then [3] else [])++(if c.bQ=2/\c.post≠0 then [4] else []))/\aj Tryz.prog Tryz.f188.ntmps w0 aa u N β ⟨[(3,.v (ab hW.length pH.1))],[]⟩ ac w/\ai w0 aa u N pP hW pH) ?_ ?_
   ·clear S;intro S
    refine S.lt 37 nQ fun S=>?_
    refine S.go 3 .nil fun ac w β S=>S.hB (α:=Int) (x:=4) (p:=()) (F:=aa) (show aq 4 from⟨by decide,by decide⟩) (fun b h=>False.elim h) (fun b h=>False.elim h) (d:=39) fun ac w N arW B3 S up nw d67=>?_
    replace fu:=fu.up up
    clear up d67
    refine S.kj (α:=Int) fu nw.al (fun _ _ h=>h) (by':=8) (d:=40) (lx:=mz.length) (ly:=1) rfl rfl (show _<=4194304 by simp only [List.length_append,List.length_cons,List.length_nil];omega) fun ac w N mV m0 S up h_ d72=>?_
    clear up d72
    exact S.e5 2 .nil fun ac w β S=>⟨rfl,(mz++[4]),mV,m0,_,_,_,(by clear S;(first|(rw [if_pos (by assumption)];simp [*];done)|(rw [if_neg (by simp [*])];simp [*];done)|(rw [vN];(repeat' split)<;>first|rfl|(simp;done)|(exfalso;simp_all;done)|(simp_all;done)))),S.z,h_⟩
   clear S fu
   rintro ac w ⟨hW,pH,pP,u,N,β,qc,S,py⟩
   have I8:hW.length<=4:=by rw [qc];(repeat' split)<;>simp
   refine S.ex fun S=>?_
   refine S.aP 8 .nil [ab hW.length pH.1] fun ac w β S=>?_
   exact cT S (show tD c=hW by clear S;(rw [qc];rfl)) rfl py
  refine S.go 6 .nil fun ac w β S=>?_
  refine m6 S (fun ac w=>∃(hW:List Int) (oR:_) (y_:_) (u:_) (N:_) (β:_),(hW=(if aS c.bQ 0 3 then [] else [1])++(if aS c.post 0 255 then [] else [2])++(if c.post≠0/\c.lL=false then [3] else [])++(if c.bQ=2/\c.post≠0 then [4] else []))/\aj Tryz.prog Tryz.f188.ntmps w0 aa u N β ⟨[(3,.v (ab hW.length oR.1))],[]⟩ ac w/\ai w0 aa u N y_ hW oR) ?_ ?_
  ·clear S;intro S
   exact S.e5 2 .nil fun ac w β S=>⟨rfl,mz,mo,lW,_,_,_,(by clear S;(first|(rw [if_pos (by assumption)];simp [*];done)|(rw [if_neg (by simp [*])];simp [*];done)|(rw [vN];(repeat' split)<;>first|rfl|(simp;done)|(exfalso;simp_all;done)|(simp_all;done)))),S.z,fu⟩
  clear S fu
  rintro ac w ⟨hW,oR,y_,u,N,β,qc,S,oJ⟩
  have I8:hW.length<=4:=by rw [qc];(repeat' split)<;>simp
  refine S.ex fun S=>?_
  refine S.aP 8 .nil [ab hW.length oR.1] fun ac w β S=>?_
  exact cT S (show tD c=hW by clear S;(rw [qc];rfl)) rfl oJ
 refine S.go 6 .nil fun ac w β S=>?_
 refine m6 S (fun ac w=>∃(mz:List Int) (Bk:_) (B7:_) (u:_) (N:_) (β:_),(mz=(if aS c.bQ 0 3 then [] else [1])++(if aS c.post 0 255 then [] else [2])++(if c.post≠0/\c.lL=false then [3] else []))/\aj Tryz.prog Tryz.f188.ntmps w0 aa u N β ⟨[(1,.p 0 0),(3,.v (ab mz.length Bk.1))],[GT.cells c ()]⟩ ac w/\ai w0 aa u N B7 mz Bk) ?_ ?_
 ·clear S;intro S
  exact S.e5 2 .nil fun ac w β S=>⟨rfl,rZ,e0,k7,_,_,_,(by clear S;(first|(rw [if_pos (by assumption)];simp [*];done)|(rw [if_neg (by simp [*])];simp [*];done)|(rw [Dm];(repeat' split)<;>first|rfl|(simp;done)|(exfalso;simp_all;done)|(simp_all;done)))),S.z,eI⟩
 clear S eI
 rintro ac w ⟨mz,Bk,B7,u,N,β,vN,S,uE⟩
 have aeE:mz.length<=3:=by rw [vN];(repeat' split)<;>simp
 refine S.ex fun S=>?_
 refine S.a8 8 .nil (c.bQ==2) (fun ac w β HL Ho S=>?_) (fun ac w β HL Ho S=>?_)
 ·refine S.go 6 .nil fun ac w β S=>?_
  refine m6 S (fun ac w=>∃(hW:List Int) (yP:_) (wY:_) (u:_) (N:_) (β:_),(hW=(if aS c.bQ 0 3 then [] else [1])++(if aS c.post 0 255 then [] else [2])++(if c.post≠0/\c.lL=false then [3] else [])++(if c.bQ=2/\c.post≠0 then [4] else []))/\aj Tryz.prog Tryz.f188.ntmps w0 aa u N β ⟨[(3,.v (ab hW.length yP.1))],[]⟩ ac w/\ai w0 aa u N wY hW yP) ?_ ?_
  ·clear S;intro S
   refine S.lt 37 nQ fun S=>?_
   exact S.e5 2 .nil fun ac w β S=>⟨rfl,mz,Bk,B7,_,_,_,(by clear S;(first|(rw [if_pos (by assumption)];simp [*];done)|(rw [if_neg (by simp [*])];simp [*];done)|(rw [vN];(repeat' split)<;>first|rfl|(simp;done)|(exfalso;simp_all;done)|(simp_all;done)))),S.z,uE⟩
  clear S uE
  rintro ac w ⟨hW,yP,wY,u,N,β,qc,S,fq⟩
  have I8:hW.length<=4:=by rw [qc];(repeat' split)<;>simp
  refine S.ex fun S=>?_
  refine S.aP 8 .nil [ab hW.length yP.1] fun ac w β S=>?_
  exact cT S (show tD c=hW by clear S;(rw [qc];rfl)) rfl fq
 refine S.go 6 .nil fun ac w β S=>?_
 refine m6 S (fun ac w=>∃(hW:List Int) (ey:_) (ff:_) (u:_) (N:_) (β:_),(hW=(if aS c.bQ 0 3 then [] else [1])++(if aS c.post 0 255 then [] else [2])++(if c.post≠0/\c.lL=false then [3] else [])++(if c.bQ=2/\c.post≠0 then [4] else []))/\aj Tryz.prog Tryz.f188.ntmps w0 aa u N β ⟨[(3,.v (ab hW.length ey.1))],[]⟩ ac w/\ai w0 aa u N ff hW ey) ?_ ?_
 ·clear S;intro S
  exact S.e5 2 .nil fun ac w β S=>⟨rfl,mz,Bk,B7,_,_,_,(by clear S;(first|(rw [if_pos (by assumption)];simp [*];done)|(rw [if_neg (by simp [*])];simp [*];done)|(rw [vN];(repeat' split)<;>first|rfl|(simp;done)|(exfalso;simp_all;done)|(simp_all;done)))),S.z,uE⟩
 clear S uE
 rintro ac w ⟨hW,ey,ff,u,N,β,qc,S,wq⟩
 have I8:hW.length<=4:=by rw [qc];(repeat' split)<;>simp
 refine S.ex fun S=>?_
 refine S.aP 8 .nil [ab hW.length ey.1] fun ac w β S=>?_
 exact cT S (show tD c=hW by clear S;(rw [qc];rfl)) rfl wq
theorem F7 (w0:World) (c:eM):Calls Tryz.prog 159 [GT.val c ()].toArray w0 (fun e w'=>e= .returned (B (km c))/\bX aa w0 w'):=by
 refine Calls.run aa Tryz.func159 ?_
 intro ac β S
 refine S.go 9 .nil fun ac w β S=>S.ct (r:=tD c) (d:=4) (XD w c) fun ac w N ae aX S up au d4=>?_
 clear up d4
 exact S.bb 6 .nil [B (((tD c).length:Int)==0)] (b4 (by clear S;first|rfl|(simp [km, *];done)|(simp [km, *];omega)|(simp_all [km];done)|(simp_all [km];omega)))
theorem ns {p:Prop} (h:p:=by clear S;(unfold C6;(repeat' split)<;>first|rfl|(exfalso;simp_all;done)|(exfalso;omega)|(rw [Bool.eq_iff_iff];simp [dI.ext_iff, *];done)|(rw [Bool.eq_iff_iff];simp_all [dI.ext_iff,and_assoc];done)|(rw [Bool.eq_iff_iff];simp_all [dI.ext_iff,and_assoc];omega))):p:=h
theorem XF (w0:World) (x:dI):Calls Tryz.prog 203 [GT.val x ()].toArray w0 (fun e w'=>e= .returned (B (C6 x))/\bX aa w0 w'):=by
 refine Calls.run aa Tryz.func203 ?_
 intro ac β S
 refine S.a8 21 .nil (x.kind==0) (fun ac w β h1 bM S=>?_) (fun ac w β h1 bM S=>?_)
 ·refine S.a8 10 .nil (x.page==0) (fun ac w β aE ej S=>?_) (fun ac w β aE ej S=>?_)
  ·refine S.bs 5 .nil (!x.wr) (fun ac w β cf S=>?_) (fun ac w β cf S=>?_)
   ·have dU:=cw cf
    exact S.bb 8 .nil [B (x.n==0)] (b4 ns)
   have eH:=cl cf
   exact S.bb 8 .nil [B false] (b4 ns)
  exact S.bb 13 .nil [B false] (b4 ns)
 refine S.a8 6 .nil (x.kind==4) (fun ac w β e_ l_ S=>?_) (fun ac w β e_ l_ S=>?_)
 ·refine S.a8 7 .nil (x.page==0) (fun ac w β dq fM S=>?_) (fun ac w β dq fM S=>?_)
  ·refine S.bs 5 .nil (!x.wr) (fun ac w β eU S=>?_) (fun ac w β eU S=>?_)
   ·have ni:=cw eU
    exact S.bb 8 .nil [B (x.n==0)] (b4 ns)
   have ju:=cl eU
   exact S.bb 8 .nil [B false] (b4 ns)
  exact S.bb 13 .nil [B false] (b4 ns)
 refine S.a8 7 .nil (x.kind==1) (fun ac w β rb tO S=>?_) (fun ac w β rb tO S=>?_)
 ·refine S.bs 7 (.cons (aY fun w hw=>fU w x.page 0 3) .nil) (aS x.page 0 3) (fun ac w β j7 S=>?_) (fun ac w β j7 S=>?_)
  ·have q_:=cM j7
   exact S.bb 8 .nil [B (x.n==0)] (b4 ns)
  have tP:=dC j7
  exact S.bb 8 .nil [B false] (b4 ns)
 refine S.a8 8 .nil (x.kind==2) (fun ac w β j8 Dc S=>?_) (fun ac w β j8 Dc S=>?_)
 ·refine S.bs 10 (.cons (aY fun w hw=>fU w x.n 0 99) .nil) (aS x.n 0 99) (fun ac w β tU S=>?_) (fun ac w β tU S=>?_)
  ·have PG:=cM tU
   refine S.a8 5 .nil (x.page==0) (fun ac w β fR ra S=>?_) (fun ac w β fR ra S=>?_)
   ·exact S.bb 8 .nil [B (!x.wr)] (b4 ns)
   exact S.bb 8 .nil [B false] (b4 ns)
  have abD:=dC tU
  exact S.bb 13 .nil [B false] (b4 ns)
 refine S.a8 6 .nil (x.kind==3) (fun ac w β nj xP S=>?_) (fun ac w β nj xP S=>?_)
 ·refine S.bs 7 (.cons (aY fun w hw=>fU w x.n 0 99) .nil) (aS x.n 0 99) (fun ac w β jv S=>?_) (fun ac w β jv S=>?_)
  ·have sf:=cM jv
   refine S.a8 5 .nil (x.page==0) (fun ac w β sg xQ S=>?_) (fun ac w β sg xQ S=>?_)
   ·exact S.bb 8 .nil [B (!x.wr)] (b4 ns)
   exact S.bb 8 .nil [B false] (b4 ns)
  have Hi:=dC jv
  exact S.bb 13 .nil [B false] (b4 ns)
 exact S.bb 10 .nil [B false] (b4 ns)
end Go.Proofs.YtmeoackmjdoecaaGreat
