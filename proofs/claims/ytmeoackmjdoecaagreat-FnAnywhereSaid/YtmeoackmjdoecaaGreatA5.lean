/- The walks: what each function that the laws reach computes (part 2). -/
import Derived.Test.YtmeoackmjdoecaaGreatA4
import Derived.Test.YtmeoackmjdoecaaGreatProg
import Derived.KernelRfl
namespace Go.Proofs.YtmeoackmjdoecaaGreat
open Go
set_option linter.unusedVariables false
set_option linter.unusedSimpArgs false
set_option maxRecDepth 100000
set_option maxHeartbeats 2000000
theorem sC {p:Prop} (h:p:=by clear S;first|rfl|(simp [na, *];done)|(simp [na, *];omega)|(simp_all [na];done)|(simp_all [na];omega)):p:=h
theorem N7 (w0:World) (g:az) (cv:dB) (aJ:br w0 g cv):Calls Tryz.prog 181 [GT.val g cv].toArray w0 (fun e w'=>e= .returned (B (na g))/\bX aa w0 w'):=by
 refine Calls.run aa Tryz.func181 ?_
 intro ac β S
 have nT:g.prog.length<=4194304:=ag.le (a5.prog (d:=g) aJ)
 have nV:g.written.length<=4194304:=ag.le (a5.written (d:=g) aJ)
 have nS:g.live.length<=4194304:=ag.le (a5.live (d:=g) aJ)
 have nU:g.seen.length<=4194304:=ag.le (a5.seen (d:=g) aJ)
 refine S.bs 12 (.cons (aY fun w hw=>Yl w g.prog cv.prog (cQ (a5.prog (d:=g) (S.arg aJ)) hw)) .nil) (p7 g.prog) (fun ac w β h1 S=>?_) (fun ac w β h1 S=>?_)
 ·refine S.bs 5 (.cons (aY fun w hw=>fU w g.acc 0 99) .nil) (aS g.acc 0 99) (fun ac w β ah S=>?_) (fun ac w β ah S=>?_)
  ·have c3:=cM ah
   refine S.bs 5 (.cons (aY fun w hw=>fU w g.aN 0 12) .nil) (aS g.aN 0 12) (fun ac w β b2 S=>?_) (fun ac w β b2 S=>?_)
   ·have gb:=cM b2
    refine S.bs 5 (.cons (aY fun w hw=>Ge w g.written cv.written (cQ (a5.written (d:=g) (S.arg aJ)) hw) 4 8 (by omega) (by omega)) .nil) (h7 g.written 4 8) (fun ac w β dU S=>?_) (fun ac w β dU S=>?_)
    ·have tS:=E_ dU
     refine S.bs 5 (.cons (aY fun w hw=>Ge w g.live cv.live (cQ (a5.live (d:=g) (S.arg aJ)) hw) 4 8 (by omega) (by omega)) .nil) (h7 g.live 4 8) (fun ac w β e_ S=>?_) (fun ac w β e_ S=>?_)
     ·have l_:=E_ e_
      refine S.bs 5 (.cons (aY fun w hw=>F7 w g.bH) .nil) (km g.bH) (fun ac w β dq S=>?_) (fun ac w β dq S=>?_)
      ·refine S.bs 5 (.cons (aY fun w hw=>zr w g.av) .nil) (aS g.av 0 255) (fun ac w β gp S=>?_) (fun ac w β gp S=>?_)
       ·have q9:=cM gp
        refine S.bs 5 (.cons (aY fun w hw=>XF w g.exit) .nil) (C6 g.exit) (fun ac w β ni S=>?_) (fun ac w β ni S=>?_)
        ·exact S.bb 9 .nil [B (decide ((g.seen.length:Int)<=40))] (b4 sC)
        exact S.bb 9 .nil [B false] (b4 sC)
       have xO:=dC gp
       exact S.bb 14 .nil [B false] (b4 sC)
      exact S.bb 19 .nil [B false] (b4 sC)
     exact S.bb 24 .nil [B false] (b4 sC)
    exact S.bb 29 .nil [B false] (b4 sC)
   have se:=dC b2
   exact S.bb 34 .nil [B false] (b4 sC)
  have tO:=dC ah
  exact S.bb 39 .nil [B false] (b4 sC)
 exact S.bb 44 .nil [B false] (b4 sC)
theorem Cu (w0:World) (r:Int):Calls Tryz.prog 189 [R r].toArray w0 (fun e w'=>e= .returned (B (aS r 0 3))/\bX aa w0 w'):=by
 refine Calls.run aa Tryz.func189 ?_
 intro ac β S
 exact S.bb 13 (.cons (aY fun w hw=>fU w r 0 3) .nil) [B (aS r 0 3)] (b4 (by clear S;first|rfl|(simp [aS, *];done)|(simp [aS, *];omega)|(simp_all [aS];done)|(simp_all [aS];omega)))
theorem JV {p:Prop} (h:p:=by clear S;first|rfl|(simp [eB, *];done)|(simp [eB, *];omega)|(simp_all [eB];done)|(simp_all [eB];omega)):p:=h
theorem tm (w0:World) (bW:Int) (need:Int):Calls Tryz.prog 161 [R bW,R need].toArray w0 (fun e w'=>e= .returned (B (eB bW need))/\bX aa w0 w'):=by
 refine Calls.run aa Tryz.func161 ?_
 intro ac β S
 refine S.bs 10 (.cons (aY fun w hw=>Cu w bW) .nil) (aS bW 0 3) (fun ac w β h1 S=>?_) (fun ac w β h1 S=>?_)
 ·have bM:=cM h1
  refine S.bs 4 (.cons (aY fun w hw=>Cu w need) .nil) (aS need 0 3) (fun ac w β aE S=>?_) (fun ac w β aE S=>?_)
  ·have ej:=cM aE
   exact S.bb 10 (.cons (te (x:=bW) (y:=need)) .nil) [B ((mg bW need)==need)] (b4 JV)
  have gb:=dC aE
  exact S.bb 10 .nil [B false] (b4 JV)
 have gn:=dC h1
 exact S.bb 14 .nil [B false] (b4 JV)
theorem oF {p:Prop} (h:p:=by clear S;(symm;rw [←Bool.not_eq_true];intro hc;simp only [iP,p5,vw,Bool.and_eq_true,decide_eq_true_eq,beq_iff_eq] at hc;first|omega|(simp_all;done)|(simp_all;omega)|(have hx:=w7 (k:=k) hc.1.2 (by omega);simp_all;done)|(have hx:=Uz (k:=j) hc.2 (by omega);unfold nb at hx;split at hx<;>first|(simp_all;done)|(simp_all;omega)))):p:=h
theorem Yc (w0:World) (m:aZ) (pm:g6) (hm:br w0 m pm):Calls Tryz.prog 121 [GT.val m pm].toArray w0 (fun e w'=>e= .returned (B (iP m))/\bX aa w0 w'):=by
 refine Calls.run aa Tryz.func121 ?_
 intro ac β S
 have Rw:m.outer.length<=4194304:=ag.le (bn.outer (d:=m) hm)
 have Rv:m.out.length<=4194304:=ag.le (bn.out (d:=m) hm)
 have Rt:m.bj.length<=4194304:=ag.le (bn.bj (d:=m) hm)
 have Ru:m.U.length<=4194304:=ag.le (bn.U (d:=m) hm)
 have Rx:m.outs.length<=4194304:=ag.le (bn.outs (d:=m) hm)
 have Ry:m.tables.length<=4194304:=ag.le (bn.tables (d:=m) hm)
 refine S.bs 15 (.cons (aY fun w hw=>fU w (m.U.length:Int) 1 2) .nil) (!(aS (m.U.length:Int) 1 2)) (fun ac w β h1 S=>?_) (fun ac w β h1 S=>?_)
 ·have ah:=cw h1
  have c3:=dC ah
  exact S.bb 59 .nil [B false] (b4 oF)
 have b2:=cl h1
 have gb:=cM b2
 refine S.a8 9 .nil ((m.tables.length:Int) != (m.U.length:Int)) (fun ac w β dU tS S=>?_) (fun ac w β dU tS S=>?_)
 ·exact S.bb 50 .nil [B false] (b4 oF)
 refine S.bs 6 (.cons (aY fun w hw=>Ge w m.outer pm.outer (cQ (bn.outer (d:=m) (S.arg hm)) hw) 8 12 (by omega) (by omega)) .nil) (!(h7 m.outer 8 12)) (fun ac w β e_ S=>?_) (fun ac w β e_ S=>?_)
 ·have gd:=cw e_
  exact S.bb 44 .nil [B false] (b4 oF)
 have dq:=cl e_
 have fM:=E_ dq
 refine S.a8 6 .nil ((m.out.length:Int) != 8) (fun ac w β eU l9 S=>?_) (fun ac w β eU l9 S=>?_)
 ·exact S.bb 38 .nil [B false] (b4 oF)
 refine S.a8 6 .nil ((m.bj.length:Int) != 8) (fun ac w β ju se S=>?_) (fun ac w β ju se S=>?_)
 ·exact S.bb 32 .nil [B false] (b4 oF)
 refine S.a8 6 .nil (decide ((m.outs.length:Int)>40)) (fun ac w β lf o8 S=>?_) (fun ac w β lf o8 S=>?_)
 ·exact S.bb 26 .nil [B false] (b4 oF)
 refine S.bs 6 (.cons (aY fun w hw=>zr w m.av) .nil) (!(aS m.av 0 255)) (fun ac w β h2 S=>?_) (fun ac w β h2 S=>?_)
 ·have mR:=cw h2
  have vz:=dC mR
  exact S.bb 20 .nil [B false] (b4 oF)
 have iU:=cl h2
 have o9:=cM iU
 refine S.bs 6 (.cons (aY fun w hw=>fU w m.bQ 0 3) .nil) (!(aS m.bQ 0 3)) (fun ac w β iC S=>?_) (fun ac w β iC S=>?_)
 ·have fR:=cw iC
  have ra:=dC fR
  exact S.bb 14 .nil [B false] (b4 oF)
 have iV:=cl iC
 have tQ:=cM iV
 refine S.bs 7 (.cons (aY fun w hw=>fU w m.owned 0 1000000000) .nil) (!(aS m.owned 0 1000000000)) (fun ac w β fo S=>?_) (fun ac w β fo S=>?_)
 ·have jv:=cw fo
  have sf:=dC jv
  exact S.bb 7 .nil [B false] (b4 oF)
 have sg:=cl fo
 have xQ:=cM sg
 refine S.go 13 .nil fun ac w β S=>?_
 refine ek (fun bG ac w=>∃(k:Nat) (u:_) (N:_) (β:_),bG=m.U.length-k/\(k<=m.U.length)/\((m.U.take k).all na=true)/\aj Tryz.prog Tryz.f121.ntmps w0 aa u N β ⟨[(1,.p 0 0),(64,.v (ab m.U.length pm.U.1)),(65,.v (R (m.U.length:Int))),(66,.v (R (k:Int)))],[GT.cells m pm]⟩ ac w) _ ⟨0,_,_,_,rfl,cL,(by simp),S.z⟩ ?_
 clear S
 rintro f33 bG aeo ac w ⟨k,u,N,β,rfl,hk,he,S⟩
 refine S.rs fun S=>?_
 refine S.a8 6 .nil (decide ((k:Int)<(m.U.length:Int))) (fun ac w β nm Dd S=>?_) (fun ac w β nm Dd S=>?_)
 ·refine S.bs 20 (.cons (cA (bn.U (d:=m) (S.arg hm)) k Tryz.underlying68) (.cons (dR (bn.U (d:=m) (S.arg hm)) 102 k) (.cons (aY fun w hw=>N7 w (el m.U k) (pm.U.2 k) (cQ (ag.el (bn.U (d:=m) (S.arg hm)) k (by omega)) hw)) .nil))) (!(na (el m.U k))) (fun ac w β vD S=>?_) (fun ac w β vD S=>?_)
  ·have sh:=cw vD
   exact S.bb 7 .nil [B false] (b4 oF)
  have rf:=cl vD
  refine S.ge 8 (.cons (cO (k:Int) 1) .nil) f33 fun ac w β S=>aeo.of (m.U.length-(k+1)) _ _ (by omega) ⟨k+1,_,_,_,rfl,?_,?_,S.z⟩
  ·exact dn
  ·clear S;exact w8 (by omega) he (by first|assumption|(simp only [fz,aS] at*;simp_all;done)|(simp_all;done)|(simp_all;omega))
 refine S.go 16 .nil fun ac w β S=>?_
 refine ek (fun bG ac w=>∃(j:Nat) (u:_) (N:_) (β:_),bG=m.outer.length-j/\(j<=m.outer.length)/\((List.range j).all (nb m)=true)/\aj Tryz.prog Tryz.f121.ntmps w0 aa u N β ⟨[(1,.p 0 0),(75,.v (ab m.outer.length pm.outer.1)),(76,.v (R (m.outer.length:Int))),(77,.v (R (j:Int)))],[GT.cells m pm]⟩ ac w) _ ⟨0,_,_,_,rfl,cL,(by rfl),S.z⟩ ?_
 clear S
 rintro f40 bG Dr ac w ⟨j,u,N,β,rfl,bJ,a2,S⟩
 refine S.rs fun S=>?_
 have Ax:m.outer.length=8:=by omega
 have ap6:m.out.length=8:=by omega
 refine S.a8 6 .nil (decide ((j:Int)<(m.outer.length:Int))) (fun ac w β qa Hm S=>?_) (fun ac w β qa Hm S=>?_)
 ·refine S.bs 18 (.cons (cA (bn.outer (d:=m) (S.arg hm)) j Tryz.underlying66) (.cons (dR (bn.outer (d:=m) (S.arg hm)) 77 j) (.cons (aY fun w hw=>m5 w) (.cons (y4 (t:=77) (el m.outer j) (⟨-1,0⟩:aA) (by kernel_rfl)) .nil)))) (decide ((el m.outer j)=(⟨-1,0⟩:aA))) (fun ac w β sj S=>?_) (fun ac w β sj S=>?_)
  ·refine S.bs 12 (.cons (cA (bn.out (d:=m) (S.arg hm)) j Tryz.underlying33) (.cons (cn (bn.out (d:=m) (S.arg hm)) 28 j) (.cons (aY fun w hw=>Gc w (el m.out j) (pm.out.2 j) (cQ (ag.el (bn.out (d:=m) (S.arg hm)) j (by omega)) hw)) .nil))) (!(iR (el m.out j))) (fun ac w β lg S=>?_) (fun ac w β lg S=>?_)
   ·have nn:=cw lg
    exact S.bb 7 .nil [B false] (b4 oF)
   have pc:=cl lg
   refine S.ge 8 (.cons (cO (j:Int) 1) .nil) f40 fun ac w β S=>Dr.of (m.outer.length-(j+1)) _ _ (by omega) ⟨j+1,_,_,_,rfl,?_,?_,S.z⟩
   ·exact dn
   ·clear S;(refine Br a2 ?_;unfold nb;(repeat' split)<;>first|(exfalso;simp_all;done)|(simp_all;done)|(simp_all;omega))
  refine S.bs 8 (.cons (aY fun w hw=>tm w (el m.outer j).bW 1) .nil) (!(eB (el m.outer j).bW 1)) (fun ac w β vE S=>?_) (fun ac w β vE S=>?_)
  ·have xU:=cw vE
   exact S.bb 17 .nil [B false] (b4 oF)
  have z6:=cl vE
  have PI:=tB z6
  have NP:(el m.out j).length<=4194304:=ag.le (ag.el (bn.out (d:=m) (S.arg hm)) j (by omega))
  refine S.a8 10 (.cons (cA (bn.out (d:=m) (S.arg hm)) j Tryz.underlying33) (.cons (cn (bn.out (d:=m) (S.arg hm)) 28 j) .nil)) (decide (((el m.out j).length:Int)>0)) (fun ac w β Di abP S=>?_) (fun ac w β Di abP S=>?_)
  ·exact S.bb 7 .nil [B false] (b4 oF)
  refine S.ge 8 (.cons (cO (j:Int) 1) .nil) f40 fun ac w β S=>Dr.of (m.outer.length-(j+1)) _ _ (by omega) ⟨j+1,_,_,_,rfl,?_,?_,S.z⟩
  ·exact dn
  ·clear S;(refine Br a2 ?_;unfold nb;(repeat' split)<;>first|(exfalso;simp_all;done)|(simp_all;done)|(simp_all;omega))
 exact S.bb 12 .nil [B true] (b4 (by clear S;(first|rfl|(symm;simp only [iP,p5,vw,Bool.and_eq_true,decide_eq_true_eq,beq_iff_eq];(repeat' apply And.intro);all_goals first|assumption|omega|(simp_all;done)|(simp_all;omega)|(exact iK (by omega) he)|((have aaF:j=8:=(by omega));subst aaF;exact a2)))))
theorem v9 {p:Prop} (h:p:=by clear S;(first|(symm;rw [←Bool.not_eq_true];intro hc;simp only [dg,q4,Bool.and_eq_true] at hc;(first|(simp_all;done)|(simp_all;omega)))|(rw [RI (Hb (k:=i) (by omega) Me hu (UX (by assumption)))])|(rw [RI (Hb (k:=i) (by omega) Me hu ((E7 Jd).trans (Hb (k:=k) (by omega) alc v5 (UY (by omega) (by assumption)))))])|(unfold dg tF q4;rw [fj (by omega)] at hu;rw [hu];simp_all;done))):p:=h
theorem tn (w0:World) (h:ad) (aK:cK) (ax:br w0 h aK):Calls Tryz.prog 60 [GT.val h aK].toArray w0 (fun e w'=>e= .returned (B (dg h))/\bX aa w0 w'):=by
 refine Calls.run aa Tryz.func60 ?_
 intro ac β S
 have gO:h.mem.length<=4194304:=ag.le (a4.mem (d:=h) ax)
 have gP:h.I.length<=4194304:=ag.le (a4.I (d:=h) ax)
 have gM:h.buf.length<=4194304:=ag.le (a4.buf (d:=h) ax)
 have gN:h.ar.length<=4194304:=ag.le (a4.ar (d:=h) ax)
 refine S.bs 14 (.cons (aY fun w hw=>Oa w h.mem aK.mem (cQ (a4.mem (d:=h) (S.arg ax)) hw) 12) .nil) (!(iy h.mem 12)) (fun ac w β h1 S=>?_) (fun ac w β h1 S=>?_)
 ·have ah:=cw h1
  exact S.bb 27 .nil [B false] (b4 v9)
 have aE:=cl h1
 refine S.bs 7 (.cons (aY fun w hw=>fU w (h.I.length:Int) 1 3) .nil) (!(aS (h.I.length:Int) 1 3)) (fun ac w β b2 S=>?_) (fun ac w β b2 S=>?_)
 ·have cf:=cw b2
  have gn:=dC cf
  exact S.bb 20 .nil [B false] (b4 v9)
 have eH:=cl b2
 have nP:=cM eH
 refine S.bs 6 (.cons (aY fun w hw=>NZ w h.buf aK.buf (cQ (a4.buf (d:=h) (S.arg ax)) hw)) .nil) (!(lD h.buf)) (fun ac w β gd S=>?_) (fun ac w β gd S=>?_)
 ·have dq:=cw gd
  exact S.bb 14 .nil [B false] (b4 v9)
 have gp:=cl gd
 refine S.bs 7 (.cons (aY fun w hw=>NZ w h.ar aK.ar (cQ (a4.ar (d:=h) (S.arg ax)) hw)) .nil) (!(lD h.ar)) (fun ac w β eU S=>?_) (fun ac w β eU S=>?_)
 ·have ni:=cw eU
  exact S.bb 7 .nil [B false] (b4 v9)
 have ju:=cl eU
 refine S.go 5 .nil fun ac w β S=>S.rT (α:=Bool) (m:=12) (by':=1) (d:=31) (by omega) (show 12<=4194304 by omega) fun ac w N lM mZ S up ef d18=>?_
 clear up d18
 refine S.go 13 .nil fun ac w β S=>?_
 refine ek (fun bG ac w=>∃(i:Nat) (us:List Bool) (ie:_) (jH:_) (u:_) (N:_) (β:_),bG=h.I.length-i/\(i<=h.I.length)/\((h.I.take i).foldl pO (some (List.replicate 12 false))=some us)/\(us.length=12)/\aj Tryz.prog Tryz.f60.ntmps w0 aa u N β ⟨[(3,.v (ab 12 ie.1)),(33,.v (ab h.I.length aK.I.1)),(34,.v (R (h.I.length:Int))),(35,.v (R (i:Int)))],[GT.cells h aK]⟩ ac w/\ai w0 aa u N jH us ie) _ ⟨0,(List.replicate 12 (GT.dE:Bool)),lM,mZ,_,_,_,rfl,cL,(by rfl),(by rfl),S.z,ef⟩ ?_
 clear S ef
 rintro f22 bG IZ ac w ⟨i,us,ie,jH,u,N,β,rfl,hi,hu,aqh,S,gS⟩
 refine S.rs fun S=>?_
 refine S.a8 6 .nil (decide ((i:Int)<(h.I.length:Int))) (fun ac w β fR ra S=>?_) (fun ac w β fR ra S=>?_)
 ·refine S.bs 21 (.cons (cA (a4.I (d:=h) (S.arg ax)) i Tryz.underlying34) (.cons (dR (a4.I (d:=h) (S.arg ax)) 71 i) (.cons (aY fun w hw=>Yc w (el h.I i) (aK.I.2 i) (cQ (ag.el (a4.I (d:=h) (S.arg ax)) i (by omega)) hw)) .nil))) (!(iP (el h.I i))) (fun ac w β iV S=>?_) (fun ac w β iV S=>?_)
  ·have nj:=cw iV
   exact S.bb 7 .nil [B false] (b4 v9)
  have fo:=cl iV
  have p_:=ux fo
  have NN:(el h.I i).outer.length<=4194304:=ag.le (bn.outer (d:=(el h.I i)) (ag.el (a4.I (d:=h) (S.arg ax)) i (by omega)))
  refine S.go 12 .nil fun ac w β S=>?_
  refine ek (fun bG ac w=>∃(k:Nat) (rP:List Bool) (n0:_) (nI:_) (u:_) (N:_) (β:_),bG=(el h.I i).outer.length-k/\(k<=(el h.I i).outer.length)/\(((el h.I i).outer.take k).foldl n6 (some us)=some rP)/\(rP.length=12)/\aj Tryz.prog Tryz.f60.ntmps w0 aa u N β ⟨[(3,.v (ab 12 n0.1)),(33,.v (ab h.I.length aK.I.1)),(34,.v (R (h.I.length:Int))),(35,.v (R (i:Int))),(43,.v (ab (el h.I i).outer.length (aK.I.2 i).outer.1)),(44,.v (R ((el h.I i).outer.length:Int))),(45,.v (R (k:Int)))],[GT.cells h aK,GT.cells (el h.I i) (aK.I.2 i)]⟩ ac w/\ai w0 aa u N nI rP n0) _ ⟨0,us,ie,jH,_,_,_,rfl,cL,(by rfl),(by omega),S.z,gS⟩ ?_
  clear S gS
  rintro f34 bG Rh ac w ⟨k,rP,n0,nI,u,N,β,rfl,hk,v5,aqi,S,gr⟩
  refine S.rs fun S=>?_
  have Jd:iP (el h.I i)=true:=by assumption
  have qj:=ai5 Jd k
  have aqb:=(ux Jd).1
  refine S.a8 6 .nil (decide ((k:Int)<((el h.I i).outer.length:Int))) (fun ac w β re zX S=>?_) (fun ac w β re zX S=>?_)
  ·refine S.a8 21 (.cons (cA (bn.outer (d:=(el h.I i)) (ag.el (a4.I (d:=h) (S.arg ax)) i (by omega))) k Tryz.underlying66) (.cons (dR (bn.outer (d:=(el h.I i)) (ag.el (a4.I (d:=h) (S.arg ax)) i (by omega))) 77 k) .nil)) (decide ((el (el h.I i).outer k).page<0)) (fun ac w β sh Hl S=>?_) (fun ac w β sh Hl S=>?_)
   ·refine S.ge 9 (.cons (cO (k:Int) 1) .nil) f34 fun ac w β S=>Rh.of ((el h.I i).outer.length-(k+1)) _ _ (by omega) ⟨k+1,rP,n0,nI,_,_,_,rfl,?_,?_,?_,S.z,gr⟩
    ·exact dn
    ·clear S;(rw [zV (by omega),v5];first|exact E8 (by omega)|exact yW (by omega) (by assumption)|exact yW (by omega) (by simp_all))
    ·clear S;(first|omega|(simp;omega))
   refine S.bs 13 (.cons (qN gr.al (l:=12) (k:=(el (el h.I i).outer k).page.toNat) (i:=(el (el h.I i).outer k).page) (by omega) (by omega) (by omega) Tryz.underlying67 (by kernel_rfl)) (.cons (cn gr.al 4 ((el (el h.I i).outer k).page.toNat)) .nil)) (el rP (el (el h.I i).outer k).page.toNat) (fun ac w β si S=>?_) (fun ac w β si S=>?_)
   ·exact S.bb 7 .nil [B false] (b4 v9)
   refine S.go 8 (.cons (qN gr.al (l:=12) (k:=(el (el h.I i).outer k).page.toNat) (i:=(el (el h.I i).outer k).page) (by omega) (by omega) (by omega) Tryz.underlying67 (by kernel_rfl)) .nil) fun ac w β S=>S.kV (α:=Bool) gr (t:=4) (k:=(el (el h.I i).outer k).page.toNat) (j:=0) (off:=n0.1.off+(el (el h.I i).outer k).page.toNat*1) (v:=B true) (y:=true) (q:=()) (fun _ _ _=>⟨aa,trivial,fun _ h=>False.elim h⟩) fun w N u6 mo S up uA d44 ar9 agT=>?_
   clear up d44 gr agT
   have Ki:(rP.set (el (el h.I i).outer k).page.toNat true).length=rP.length:=List.length_set
   refine S.ge 7 (.cons (cO (k:Int) 1) .nil) f34 fun ac w β S=>Rh.of ((el h.I i).outer.length-(k+1)) _ _ (by omega) ⟨k+1,(rP.set (el (el h.I i).outer k).page.toNat true),(n0.1,mo),u6,_,_,_,rfl,?_,?_,?_,S.z,uA⟩
   ·exact dn
   ·clear S;(rw [zV (by omega),v5];first|exact E8 (by omega)|exact yW (by omega) (by assumption)|exact yW (by omega) (by simp_all))
   ·clear S;(first|omega|(simp;omega))
  refine S.ge 11 (.cons (cO (i:Int) 1) .nil) f22 fun ac w β S=>IZ.of (h.I.length-(i+1)) _ _ (by omega) ⟨i+1,rP,n0,nI,_,_,_,rfl,?_,?_,?_,S.z,gr⟩
  ·exact dn
  ·clear S;(rw [zV (by omega),hu,E7 (by assumption)];rw [fj (by omega)] at v5;exact v5)
  ·clear S;omega
 exact S.bb 12 .nil [B true] (b4 v9)
theorem So {p:Prop} (h:p:=by clear S;first|rfl|(simp [q1, *];done)|(simp [q1, *];omega)|(simp_all [q1];done)|(simp_all [q1];omega)):p:=h
theorem N0 (w0:World) (g:az) (cv:dB) (aJ:br w0 g cv):Calls Tryz.prog 122 [GT.val g cv].toArray w0 (fun e w'=>e= .returned (B (q1 g))/\bX aa w0 w'):=by
 refine Calls.run aa Tryz.func122 ?_
 intro ac β S
 have nT:g.prog.length<=4194304:=ag.le (a5.prog (d:=g) aJ)
 have nV:g.written.length<=4194304:=ag.le (a5.written (d:=g) aJ)
 have nS:g.live.length<=4194304:=ag.le (a5.live (d:=g) aJ)
 have nU:g.seen.length<=4194304:=ag.le (a5.seen (d:=g) aJ)
 refine S.bs 13 (.cons (dY (s:=Instr.build 100 [].toArray) (v:= .agg [R 0,R 0,B false,R 0].toArray) (fun w=>by kernel_rfl)) (.cons (MY (t:=100) g.exit (⟨0,0,false,0⟩:dI) (by kernel_rfl)) .nil)) (decide (g.exit=(⟨0,0,false,0⟩:dI))) (fun ac w β h1 S=>?_) (fun ac w β h1 S=>?_)
 ·exact S.bb 8 .nil [B (!g.halted)] (b4 So)
 exact S.bb 8 .nil [B false] (b4 So)
theorem Sx {p:Prop} (h:p:=by clear S;(first|(exact(alE (by assumption)).symm)|(unfold j4;rw [if_pos (by assumption)];done))):p:=h
theorem Oh (w0:World) (p:Int):Calls Tryz.prog 182 [R p].toArray w0 (fun e w'=>e= .returned (R (j4 p))/\bX aa w0 w'):=by
 refine Calls.run aa Tryz.func182 ?_
 intro ac β S
 refine S.bs 13 (.cons (aY fun w hw=>zr w p) .nil) (!(aS p 0 255)) (fun ac w β h1 S=>?_) (fun ac w β h1 S=>?_)
 ·have ah:=cw h1
  have c3:=dC ah
  exact S.bb 7 .nil [R (-1)] (g3 Sx)
 have b2:=cl h1
 have gb:=cM b2
 have FZ:=Xf p
 exact S.bb 13 (.cons (FN (s:=3) (d:=95) (x:=p) Tryz.underlying3 Tryz.underlying95 (by omega) (by omega)) (.cons (aY fun w hw=>YB w p (by omega) (by omega)) (.cons (pI (tC p) 1) .nil))) [R ((tC p)-1)] (g3 Sx)
theorem Og (w0:World) (g:az) (cv:dB) (aJ:br w0 g cv):Calls Tryz.prog 123 [GT.val g cv].toArray w0 (fun e w'=>e= .returned (B (tJ g))/\bX aa w0 w'):=by
 refine Calls.run aa Tryz.func123 ?_
 intro ac β S
 have nT:g.prog.length<=4194304:=ag.le (a5.prog (d:=g) aJ)
 have nV:g.written.length<=4194304:=ag.le (a5.written (d:=g) aJ)
 have nS:g.live.length<=4194304:=ag.le (a5.live (d:=g) aJ)
 have nU:g.seen.length<=4194304:=ag.le (a5.seen (d:=g) aJ)
 refine S.bs 11 (.cons (aY fun w hw=>N0 w g cv (cQ (S.arg aJ) hw)) .nil) (q1 g) (fun ac w β h1 S=>?_) (fun ac w β h1 S=>?_)
 ·refine S.bs 5 .nil g.bH.lL (fun ac w β ah S=>?_) (fun ac w β ah S=>?_)
  ·have jX:=Fc g.av
   exact S.bb 9 (.cons (aY fun w hw=>Oh w g.av) .nil) [B (decide ((j4 g.av)>=0))] (b4 (by clear S;(simp [tJ, *])))
  exact S.bb 9 .nil [B false] (b4 (by clear S;(simp [tJ, *])))
 exact S.bb 14 .nil [B false] (b4 (by clear S;(simp [tJ, *])))
theorem Sp {p:Prop} (h:p:=by clear S;(first|(unfold dk;rw [if_pos (by omega)];done)|(unfold dk;rw [if_pos (by omega)];first|rfl|(simp;done))|(unfold dk;rw [if_neg (by omega)];done)|(unfold dk;rw [if_neg (by omega)];first|rfl|(simp;done)))):p:=h
theorem vg (w0:World) (p:List cE) (pp:af cE) (a2:br w0 p pp) (aN:Int):Calls Tryz.prog 124 [ab p.length pp.1,R aN].toArray w0 (fun e w'=>e= .returned (GT.val (dk p aN) ())/\bX aa w0 w'):=by
 refine Calls.run aa Tryz.func124 ?_
 intro ac β S
 have Rz:p.length<=4194304:=ag.le a2
 refine S.bs 15 (.cons (aY fun w hw=>gJ w aN (p.length:Int) (by omega)) .nil) (!(aS aN 0 ((p.length:Int)-1))) (fun ac w β h1 S=>?_) (fun ac w β h1 S=>?_)
 ·have ah:=cw h1
  have c3:=dC ah
  exact S.bb 8 (.cons (dY (s:=Instr.build 158 [(0,R 7)].toArray) (v:= .agg [R 7,R 0].toArray) (fun w=>by kernel_rfl)) .nil) [GT.val (⟨7,0⟩:cE) ()] (mq (p:=()) Sp)
 have b2:=cl h1
 have gb:=cM b2
 exact S.bb 13 (.cons (cP (S.arg a2) aN Tryz.underlying98) (.cons (dR (S.arg a2) 158 aN.toNat) .nil)) [GT.val (el p aN.toNat) ()] (mq (p:=()) Sp)
theorem uo {p:Prop} (h:p:=by clear S;(unfold b6;first|(rw [if_pos (by assumption)];done)|(rw [if_neg (by simp [*]),if_pos (by assumption)];done)|(rw [if_neg (by simp [*]),if_neg (by simp [*])];unfold G9;first|(rw [if_pos (by assumption)];done)|(rw [if_neg (by assumption),if_pos (by assumption)];done)|(rw [if_neg (by assumption),if_neg (by assumption),if_pos (by assumption)];done)|(rw [if_neg (by assumption),if_neg (by assumption),if_neg (by assumption),if_pos (by assumption)];done)|(rw [if_neg (by assumption),if_neg (by assumption),if_neg (by assumption),if_neg (by assumption),if_pos (by assumption)];done)|(rw [if_neg (by assumption),if_neg (by assumption),if_neg (by assumption),if_neg (by assumption),if_neg (by assumption)];done)))):p:=h
theorem zs (w0:World) (g:az) (cv:dB) (aJ:br w0 g cv):Calls Tryz.prog 62 [GT.val g cv].toArray w0 (fun e w'=>e= .returned (R (b6 g))/\bX aa w0 w'):=by
 refine Calls.run aa Tryz.func62 ?_
 intro ac β S
 have nT:g.prog.length<=4194304:=ag.le (a5.prog (d:=g) aJ)
 have nV:g.written.length<=4194304:=ag.le (a5.written (d:=g) aJ)
 have nS:g.live.length<=4194304:=ag.le (a5.live (d:=g) aJ)
 have nU:g.seen.length<=4194304:=ag.le (a5.seen (d:=g) aJ)
 refine S.bs 16 (.cons (aY fun w hw=>N0 w g cv (cQ (S.arg aJ) hw)) .nil) (!(q1 g)) (fun ac w β h1 S=>?_) (fun ac w β h1 S=>?_)
 ·have ah:=cw h1
  exact S.bb 7 .nil [R 0] (g3 uo)
 have aE:=cl h1
 refine S.bs 8 (.cons (aY fun w hw=>Og w g cv (cQ (S.arg aJ) hw)) .nil) (tJ g) (fun ac w β b2 S=>?_) (fun ac w β b2 S=>?_)
 ·exact S.bb 7 .nil [R 1] (g3 uo)
 refine S.a8 22 (.cons (aY fun w hw=>vg w g.prog cv.prog (cQ (a5.prog (d:=g) (S.arg aJ)) hw) g.aN) .nil) ((dk g.prog g.aN).hv==3) (fun ac w β cf gn S=>?_) (fun ac w β cf gn S=>?_)
 ·exact S.bb 7 .nil [R 3] (g3 uo)
 refine S.a8 7 .nil ((dk g.prog g.aN).hv==4) (fun ac w β eH nP S=>?_) (fun ac w β eH nP S=>?_)
 ·exact S.bb 7 .nil [R 4] (g3 uo)
 refine S.a8 7 .nil ((dk g.prog g.aN).hv==5) (fun ac w β gd p9 S=>?_) (fun ac w β gd p9 S=>?_)
 ·exact S.bb 7 .nil [R 5] (g3 uo)
 refine S.a8 7 .nil ((dk g.prog g.aN).hv==6) (fun ac w β gp q9 S=>?_) (fun ac w β gp q9 S=>?_)
 ·exact S.bb 7 .nil [R 6] (g3 uo)
 refine S.a8 7 .nil ((dk g.prog g.aN).hv==7) (fun ac w β ni xO S=>?_) (fun ac w β ni xO S=>?_)
 ·exact S.bb 7 .nil [R 7] (g3 uo)
 exact S.bb 10 .nil [R 2] (g3 uo)
theorem JR {p:Prop} (h:p:=by clear S;(unfold ch;first|(rw [if_pos (by first|exact Or.inl (by assumption)|exact Or.inr (by assumption)|omega)];done)|(rw [if_neg (by omega)];done))):p:=h
theorem NW (w0:World) (g:az) (cv:dB) (aJ:br w0 g cv):Calls Tryz.prog 63 [GT.val g cv].toArray w0 (fun e w'=>e= .returned (R (ch g))/\bX aa w0 w'):=by
 refine Calls.run aa Tryz.func63 ?_
 intro ac β S
 have nT:g.prog.length<=4194304:=ag.le (a5.prog (d:=g) aJ)
 have nV:g.written.length<=4194304:=ag.le (a5.written (d:=g) aJ)
 have nS:g.live.length<=4194304:=ag.le (a5.live (d:=g) aJ)
 have nU:g.seen.length<=4194304:=ag.le (a5.seen (d:=g) aJ)
 have bd:=BV g
 refine S.a8 19 (.cons (aY fun w hw=>zs w g cv (cQ (S.arg aJ) hw)) .nil) ((b6 g) != 3) (fun ac w β ah c3 S=>?_) (fun ac w β ah c3 S=>?_)
 ·refine S.a8 5 .nil ((b6 g) != 4) (fun ac w β b2 gb S=>?_) (fun ac w β b2 gb S=>?_)
  ·exact S.bb 7 .nil [R (-1)] (g3 JR)
  exact S.bb 15 (.cons (aY fun w hw=>vg w g.prog cv.prog (cQ (a5.prog (d:=g) (S.arg aJ)) hw) g.aN) .nil) [R (dk g.prog g.aN).x] (g3 JR)
 exact S.bb 20 (.cons (aY fun w hw=>vg w g.prog cv.prog (cQ (a5.prog (d:=g) (S.arg aJ)) hw) g.aN) .nil) [R (dk g.prog g.aN).x] (g3 JR)
theorem Sk {p:Prop} (h:p:=by clear S;(first|(unfold a7;rw [if_pos (by omega)];done)|(unfold a7;rw [if_pos (by omega)];first|rfl|(simp;done))|(unfold a7;rw [if_neg (by omega)];done)|(unfold a7;rw [if_neg (by omega)];first|rfl|(simp;done)))):p:=h
theorem r2 (w0:World) (addr:Int) (kr:aq addr):Calls Tryz.prog 65 [R addr].toArray w0 (fun e w'=>e= .returned (R (a7 addr))/\bX aa w0 w'):=by
 refine Calls.run aa Tryz.func65 ?_
 intro ac β S
 have Ja:=kr.b9;have I5:=kr.hi
 refine S.a8 12 .nil (decide (addr<0)) (fun ac w β h1 bM S=>?_) (fun ac w β h1 bM S=>?_)
 ·exact S.bb 7 .nil [R (-1)] (g3 Sk)
 exact S.bb 11 (.cons (WG (x:=addr) (y:=4) (by decide) (alA kr (by omega))) .nil) [R (Int.tdiv addr 4)] (g3 Sk)
theorem Ga (w0:World) (write:Bool):Calls Tryz.prog 66 [B write].toArray w0 (fun e w'=>e= .returned (R (gB write))/\bX aa w0 w'):=by
 refine Calls.run aa Tryz.func66 ?_
 intro ac β S
 refine S.bs 11 .nil write (fun ac w β h1 S=>?_) (fun ac w β h1 S=>?_)
 ·exact S.bb 7 .nil [R 2] (g3 (by clear S;(simp [gB, *])))
 exact S.bb 9 .nil [R 1] (g3 (by clear S;(simp [gB, *])))
theorem Sw {p:Prop} (h:p:=by clear S;(first|(unfold dw;rw [if_pos (by omega)])|(unfold dw;rw [if_neg (by omega)]))):p:=h
theorem Cw (w0:World) (t:List aA) (aM:af aA) (bC:br w0 t aM) (page:Int):Calls Tryz.prog 150 [ab t.length aM.1,R page].toArray w0 (fun e w'=>e= .returned (GT.val (dw t page) ())/\bX aa w0 w'):=by
 refine Calls.run aa Tryz.func150 ?_
 intro ac β S
 have Dy:t.length<=4194304:=ag.le bC
 refine S.bs 15 (.cons (aY fun w hw=>gJ w page (t.length:Int) (by omega)) .nil) (!(aS page 0 ((t.length:Int)-1))) (fun ac w β h1 S=>?_) (fun ac w β h1 S=>?_)
 ·have ah:=cw h1
  have c3:=dC ah
  exact S.bb 8 (.cons (aY fun w hw=>m5 w) .nil) [GT.val (⟨-1,0⟩:aA) ()] (mq (p:=()) Sw)
 have b2:=cl h1
 have gb:=cM b2
 exact S.bb 13 (.cons (cP (S.arg bC) page Tryz.underlying66) (.cons (dR (S.arg bC) 77 page.toNat) .nil)) [GT.val (el t page.toNat) ()] (mq (p:=()) Sw)
theorem um {p:Prop} (h:p:=by clear S;(unfold c6;(repeat' split)<;>first|rfl|(exfalso;omega)|(exfalso;simp_all;done)|(exfalso;simp_all;omega))):p:=h
theorem Gf (w0:World) (inner:List aA) (qs:af aA) (so:br w0 inner qs) (page:Int) (need:Int):Calls Tryz.prog 139 [ab inner.length qs.1,R page,R need].toArray w0 (fun e w'=>e= .returned (.tuple #[R (c6 inner page need).1,B (c6 inner page need).2])/\bX aa w0 w'):=by
 refine Calls.run aa Tryz.func139 ?_
 intro ac β S
 have Rs:inner.length<=4194304:=ag.le so
 refine S.a8 22 (.cons (aY fun w hw=>Cw w inner qs (cQ (S.arg so) hw) page) .nil) ((dw inner page).page==(-1)) (fun ac w β h1 bM S=>?_) (fun ac w β h1 bM S=>?_)
 ·exact S.bb 21 .nil [R (-1),B false] (lO (l5 (show(-1)=(c6 inner page need).1 from um)) (m8 (show false=(c6 inner page need).2 from um)))
 refine S.bs 7 (.cons (aY fun w hw=>tm w (dw inner page).bW need) .nil) (!(eB (dw inner page).bW need)) (fun ac w β aE S=>?_) (fun ac w β aE S=>?_)
 ·have b2:=cw aE
  exact S.bb 14 .nil [R (-1),B false] (lO (l5 (show(-1)=(c6 inner page need).1 from um)) (m8 (show false=(c6 inner page need).2 from um)))
 have cf:=cl aE
 have gn:=tB cf
 refine S.bs 6 (.cons (aY fun w hw=>fU w need 1 3) .nil) (!(aS need 1 3)) (fun ac w β eH S=>?_) (fun ac w β eH S=>?_)
 ·have e_:=cw eH
  have l_:=dC e_
  exact S.bb 8 .nil [R (-1),B false] (lO (l5 (show(-1)=(c6 inner page need).1 from um)) (m8 (show false=(c6 inner page need).2 from um)))
 have dq:=cl eH
 have fM:=cM dq
 exact S.bb 12 .nil [R (dw inner page).page,B true] (lO (l5 (show(dw inner page).page=(c6 inner page need).1 from um)) (m8 (show true=(c6 inner page need).2 from um)))
theorem JZ {p:Prop} (h:p:=by clear S;(first|(unfold cq;rw [if_pos (by omega)];done)|(unfold cq;rw [if_pos (by omega)];first|rfl|(simp;done))|(unfold cq;rw [if_neg (by omega)];done)|(unfold cq;rw [if_neg (by omega)];first|rfl|(simp;done)))):p:=h
theorem Cx (w0:World) (m:Int) (g:Int):Calls Tryz.prog 84 [R m,R g].toArray w0 (fun e w'=>e= .returned (R (cq m g))/\bX aa w0 w'):=by
 refine Calls.run aa Tryz.func84 ?_
 intro ac β S
 refine S.bs 12 (.cons (aY fun w hw=>gJ w m 3 (by omega)) .nil) (!(aS m 0 (3-1))) (fun ac w β h1 S=>?_) (fun ac w β h1 S=>?_)
 ·have ah:=cw h1
  have c3:=dC ah
  exact S.bb 13 .nil [R 0] (g3 JZ)
 have b2:=cl h1
 have gb:=cM b2
 refine S.bs 6 (.cons (aY fun w hw=>gJ w g 2 (by omega)) .nil) (!(aS g 0 (2-1))) (fun ac w β dU S=>?_) (fun ac w β dU S=>?_)
 ·have eH:=cw dU
  have nP:=dC eH
  exact S.bb 7 .nil [R 0] (g3 JZ)
 have gd:=cl dU
 have p9:=cM gd
 exact S.bb 14 (.cons (cO 1 g) (.cons (w3 (x:=m) (y:=2) ⟨by omega,by omega⟩) (.cons (cO (1+g) (m*2)) .nil))) [R ((1+g)+(m*2))] (g3 JZ)
theorem DV {p:Prop} (h:p:=by clear S;(first|(rw [aa5 (by omega) bm];done)|(rw [aa6 (k:=k) (by omega) bm (akZ (by assumption) (by assumption))];done))):p:=h
theorem N4 (w0:World) (b:List a0) (aQ:af a0) (hb:br w0 b aQ) (tag:Int) (page:Int):Calls Tryz.prog 183 [ab b.length aQ.1,R tag,R page].toArray w0 (fun e w'=>e= .returned (.tuple #[GT.val (eQ b tag page).1 (),B (eQ b tag page).2])/\bX aa w0 w'):=by
 refine Calls.run aa Tryz.func183 ?_
 intro ac β S
 have pg:b.length<=4194304:=ag.le hb
 refine S.go 15 .nil fun ac w β S=>?_
 refine ek (fun bG ac w=>∃(k:Nat) (u:_) (N:_) (β:_),bG=b.length-k/\(k<=b.length)/\((b.take k).find? (fun e=>ij e tag page)=none)/\aj Tryz.prog Tryz.f183.ntmps w0 aa u N β ⟨[(1,.v (R tag)),(2,.v (R page)),(6,.p 0 0),(10,.v (ab b.length aQ.1)),(11,.v (R (b.length:Int))),(12,.v (R (k:Int)))],[c2 a0]⟩ ac w) _ ⟨0,_,_,_,rfl,cL,(by rfl),S.z⟩ ?_
 clear S
 rintro f1 bG mc ac w ⟨k,u,N,β,rfl,hk,bm,S⟩
 refine S.rs fun S=>?_
 refine S.a8 6 .nil (decide ((k:Int)<(b.length:Int))) (fun ac w β aE ej S=>?_) (fun ac w β aE ej S=>?_)
 ·refine S.a8 20 (.cons (cA (S.arg hb) k Tryz.underlying35) (.cons (dR (S.arg hb) 177 k) .nil)) ((el b k).tag==tag) (fun ac w β cf gn S=>?_) (fun ac w β cf gn S=>?_)
  ·refine S.a8 7 .nil ((el b k).page==page) (fun ac w β eH nP S=>?_) (fun ac w β eH nP S=>?_)
   ·exact S.bb 9 .nil [GT.val (el b k) (),B true] (lO (congrArg (fun z=>GT.val z ()) (show(el b k)=(eQ b tag page).1 from DV)) (m8 (show true=(eQ b tag page).2 from DV)))
   refine S.ge 8 (.cons (cO (k:Int) 1) .nil) f1 fun ac w β S=>mc.of (b.length-(k+1)) _ _ (by omega) ⟨k+1,_,_,_,rfl,?_,?_,S.z⟩
   ·exact dn
   ·clear S;(first|exact C9 (by omega) bm (EY (by assumption))|exact C9 (by omega) bm (UK (by assumption)))
  refine S.ge 15 (.cons (cO (k:Int) 1) .nil) f1 fun ac w β S=>mc.of (b.length-(k+1)) _ _ (by omega) ⟨k+1,_,_,_,rfl,?_,?_,S.z⟩
  ·exact dn
  ·clear S;(first|exact C9 (by omega) bm (EY (by assumption))|exact C9 (by omega) bm (UK (by assumption)))
 exact S.bb 14 (.cons (dY (s:=Instr.build 177 [].toArray) (v:= .agg [R 0,R 0,R 0,R 0].toArray) (fun w=>by kernel_rfl)) .nil) [GT.val (⟨0,0,0,0⟩:a0) (),B false] (lO (congrArg (fun z=>GT.val z ()) (show(⟨0,0,0,0⟩:a0)=(eQ b tag page).1 from DV)) (m8 (show false=(eQ b tag page).2 from DV)))
theorem ug {p:Prop} (h:p:=by clear S;(unfold bK;(repeat' split)<;>first|rfl|(exfalso;omega)|(exfalso;simp_all;done)|(exfalso;simp_all;omega)|(simp_all;done))):p:=h
theorem Co (w0:World) (k:bO) (fH:hI) (hk:br w0 k fH) (page:Int):Calls Tryz.prog 184 [GT.val k fH,R page].toArray w0 (fun e w'=>e= .returned (.tuple #[GT.val (bK k page).1 (),B (bK k page).2])/\bX aa w0 w'):=by
 refine Calls.run aa Tryz.func184 ?_
 intro ac β S
 have x_:k.known.length<=4194304:=ag.le (hV.known (d:=k) hk)
 have ya:k.bN.length<=4194304:=ag.le (hV.bN (d:=k) hk)
 refine S.bs 17 (.cons (aY fun w hw=>gJ w page (k.known.length:Int) (by omega)) .nil) (!(aS page 0 ((k.known.length:Int)-1))) (fun ac w β h1 S=>?_) (fun ac w β h1 S=>?_)
 ·have ah:=cw h1
  have c3:=dC ah
  exact S.bb 26 (.cons (aY fun w hw=>m5 w) .nil) [GT.val (⟨-1,0⟩:aA) (),B false] (lO (congrArg (fun z=>GT.val z ()) (show(⟨-1,0⟩:aA)=(bK k page).1 from ug)) (m8 (show false=(bK k page).2 from ug)))
 have b2:=cl h1
 have gb:=cM b2
 refine S.bs 8 (.cons (aY fun w hw=>gJ w page (k.bN.length:Int) (by omega)) .nil) (!(aS page 0 ((k.bN.length:Int)-1))) (fun ac w β dU S=>?_) (fun ac w β dU S=>?_)
 ·have eH:=cw dU
  have nP:=dC eH
  exact S.bb 18 (.cons (aY fun w hw=>m5 w) .nil) [GT.val (⟨-1,0⟩:aA) (),B false] (lO (congrArg (fun z=>GT.val z ()) (show(⟨-1,0⟩:aA)=(bK k page).1 from ug)) (m8 (show false=(bK k page).2 from ug)))
 have gd:=cl dU
 have p9:=cM gd
 refine S.bs 9 (.cons (cP (hV.known (d:=k) (S.arg hk)) page Tryz.underlying67) (.cons (cn (hV.known (d:=k) (S.arg hk)) 4 page.toNat) .nil)) (!(el k.known page.toNat)) (fun ac w β gp S=>?_) (fun ac w β gp S=>?_)
 ·have eU:=cw gp
  exact S.bb 9 (.cons (aY fun w hw=>m5 w) .nil) [GT.val (⟨-1,0⟩:aA) (),B false] (lO (congrArg (fun z=>GT.val z ()) (show(⟨-1,0⟩:aA)=(bK k page).1 from ug)) (m8 (show false=(bK k page).2 from ug)))
 have ni:=cl gp
 exact S.bb 15 (.cons (cP (hV.bN (d:=k) (S.arg hk)) page Tryz.underlying66) (.cons (dR (hV.bN (d:=k) (S.arg hk)) 77 page.toNat) .nil)) [GT.val (el k.bN page.toNat) (),B true] (lO (congrArg (fun z=>GT.val z ()) (show(el k.bN page.toNat)=(bK k page).1 from ug)) (m8 (show true=(bK k page).2 from ug)))
theorem yo {p:Prop} (h:p:=by clear S;(first|rw [TQ (by omega)]|rw [aiP (he.trans (TK (by omega)))]|rw [Lo (by omega),he,aiL (by omega) (qe.trans (Lj (by omega) (by assumption)))])):p:=h
theorem Ob (w0:World) (h:ad) (aK:cK) (ax:br w0 h aK) (page:Int):Calls Tryz.prog 191 [GT.val h aK,R page].toArray w0 (fun e w'=>e= .returned (.tuple #[R (eG h page).1,R (eG h page).2])/\bX aa w0 w'):=by
 refine Calls.run aa Tryz.func191 ?_
 intro ac β S
 have gO:h.mem.length<=4194304:=ag.le (a4.mem (d:=h) ax)
 have gP:h.I.length<=4194304:=ag.le (a4.I (d:=h) ax)
 have gM:h.buf.length<=4194304:=ag.le (a4.buf (d:=h) ax)
 have gN:h.ar.length<=4194304:=ag.le (a4.ar (d:=h) ax)
 refine S.a8 14 .nil (decide (page<0)) (fun ac w β h1 bM S=>?_) (fun ac w β h1 bM S=>?_)
 ·exact S.bb 8 .nil [R (-1),R (-1)] (lO (l5 (show(-1)=(eG h page).1 from yo)) (l5 (show(-1)=(eG h page).2 from yo)))
 refine S.go 13 .nil fun ac w β S=>?_
 refine ek (fun bG ac w=>∃(i:Nat) (u:_) (N:_) (β:_),bG=h.I.length-i/\(i<=h.I.length)/\(iQ h.I page 0=iQ h.I page i)/\aj Tryz.prog Tryz.f191.ntmps w0 aa u N β ⟨[(1,.v (R page)),(13,.v (ab h.I.length aK.I.1)),(14,.v (R (h.I.length:Int))),(15,.v (R (i:Int)))],[GT.cells h aK]⟩ ac w) _ ⟨0,_,_,_,rfl,cL,cL,S.z⟩ ?_
 clear S
 rintro f3 bG nr ac w ⟨i,u,N,β,rfl,hi,he,S⟩
 refine S.rs fun S=>?_
 refine S.a8 6 .nil (decide ((i:Int)<(h.I.length:Int))) (fun ac w β cf gn S=>?_) (fun ac w β cf gn S=>?_)
 ·have W9:(el h.I i).outer.length<=4194304:=ag.le (bn.outer (d:=(el h.I i)) (ag.el (a4.I (d:=h) (S.arg ax)) i (by omega)))
  refine S.go 24 (.cons (cA (a4.I (d:=h) (S.arg ax)) i Tryz.underlying34) (.cons (dR (a4.I (d:=h) (S.arg ax)) 71 i) .nil)) fun ac w β S=>?_
  refine ek (fun bG ac w=>∃(k:Nat) (u:_) (N:_) (β:_),bG=(el h.I i).outer.length-k/\(k<=(el h.I i).outer.length)/\(kp (el h.I i).outer page 0=kp (el h.I i).outer page k)/\aj Tryz.prog Tryz.f191.ntmps w0 aa u N β ⟨[(1,.v (R page)),(6,.v (R (i:Int))),(13,.v (ab h.I.length aK.I.1)),(14,.v (R (h.I.length:Int))),(15,.v (R (i:Int))),(21,.v (ab (el h.I i).outer.length (aK.I.2 i).outer.1)),(22,.v (R ((el h.I i).outer.length:Int))),(23,.v (R (k:Int)))],[GT.cells h aK,GT.cells (el h.I i) (aK.I.2 i)]⟩ ac w) _ ⟨0,_,_,_,rfl,cL,cL,S.z⟩ ?_
  clear S
  rintro f8 bG g0 ac w ⟨k,u,N,β,rfl,hk,qe,S⟩
  refine S.rs fun S=>?_
  have tY:(el h.I i).outer.length<=4194304:=ag.le (bn.outer (d:=el h.I i) (ag.el (a4.I (d:=h) ax) i (by omega)))
  refine S.a8 6 .nil (decide ((k:Int)<((el h.I i).outer.length:Int))) (fun ac w β dq fM S=>?_) (fun ac w β dq fM S=>?_)
  ·refine S.a8 23 (.cons (cA (bn.outer (d:=(el h.I i)) (ag.el (a4.I (d:=h) (S.arg ax)) i (by omega))) k Tryz.underlying66) (.cons (dR (bn.outer (d:=(el h.I i)) (ag.el (a4.I (d:=h) (S.arg ax)) i (by omega))) 77 k) .nil)) ((el (el h.I i).outer k).page==page) (fun ac w β eU l9 S=>?_) (fun ac w β eU l9 S=>?_)
   ·exact S.bb 10 .nil [R (i:Int),R (k:Int)] (lO (l5 (show(i:Int)=(eG h page).1 from yo)) (l5 (show(k:Int)=(eG h page).2 from yo)))
   refine S.ge 8 (.cons (cO (k:Int) 1) .nil) f8 fun ac w β S=>g0.of ((el h.I i).outer.length-(k+1)) _ _ (by omega) ⟨k+1,_,_,_,rfl,?_,?_,S.z⟩
   ·exact dn
   ·clear S;exact qe.trans (Lk (by omega) (by assumption))
  refine S.ge 11 (.cons (cO (i:Int) 1) .nil) f3 fun ac w β S=>nr.of (h.I.length-(i+1)) _ _ (by omega) ⟨i+1,_,_,_,rfl,?_,?_,S.z⟩
  ·exact dn
  ·clear S;exact he.trans (aiM (by omega) (qe.trans (TN (by omega))))
 exact S.bb 13 .nil [R (-1),R (-1)] (lO (l5 (show(-1)=(eG h page).1 from yo)) (l5 (show(-1)=(eG h page).2 from yo)))
theorem N6 (w0:World) (h:ad) (aK:cK) (ax:br w0 h aK):Calls Tryz.prog 165 [GT.val h aK].toArray w0 (dZ aa w0 (eN h:List Int)):=by
 refine Calls.run aa Tryz.func165 ?_
 intro ac β S
 have gO:h.mem.length<=4194304:=ag.le (a4.mem (d:=h) ax)
 have gP:h.I.length<=4194304:=ag.le (a4.I (d:=h) ax)
 have gM:h.buf.length<=4194304:=ag.le (a4.buf (d:=h) ax)
 have gN:h.ar.length<=4194304:=ag.le (a4.ar (d:=h) ax)
 refine S.go 8 .nil fun ac w β S=>S.gx (α:=Int) (d:=7) fun ac w N ae aX S up au d4=>?_
 clear up d4
 refine S.go 13 .nil fun ac w β S=>?_
 refine ek (fun bG ac w=>∃(k:Nat) (acc:List Int) (bZ:_) (b7:_) (u:_) (N:_) (β:_),bG=h.mem.length-k/\(k<=h.mem.length)/\(acc=j3 k (fun p=>decide ((eG h p).1<0)))/\aj Tryz.prog Tryz.f165.ntmps w0 aa u N β ⟨[(1,.p 0 0),(3,.v (ab acc.length bZ.1)),(10,.v (R (h.mem.length:Int))),(11,.v (R (k:Int)))],[GT.cells h aK]⟩ ac w/\ai w0 aa u N b7 acc bZ) _ ⟨0,([]:List Int),ae,aX,_,_,_,rfl,cL,(by rfl),S.z,au⟩ ?_
 clear S au
 rintro f8 bG g0 ac w ⟨k,acc,bZ,b7,u,N,β,rfl,hk,cD,S,ak⟩
 refine S.rs fun S=>?_
 have lH:acc.length<=k:=by rw [cD];exact AM _ _
 refine S.a8 6 .nil (decide ((k:Int)<(h.mem.length:Int))) (fun ac w β dq fM S=>?_) (fun ac w β dq fM S=>?_)
 ·refine S.a8 29 (.cons (aY fun w hw=>Ob w h aK (cQ (S.arg ax) hw) (k:Int)) .nil) (decide ((eG h (k:Int)).1<0)) (fun ac w β eU l9 S=>?_) (fun ac w β eU l9 S=>?_)
  ·refine S.go 4 .nil fun ac w β S=>S.hB (α:=Int) (x:=(k:Int)) (p:=()) (F:=aa) ⟨by omega,by omega⟩ (fun b h=>False.elim h) (fun b h=>False.elim h) (d:=24) fun ac w N lp kv S up dd d17=>?_
   replace ak:=ak.up up
   clear up d17
   refine S.kj (α:=Int) ak dd.al (fun _ _ h=>h) (by':=8) (d:=25) (lx:=acc.length) (ly:=1) rfl rfl (show _<=4194304 by simp only [List.length_append,List.length_cons,List.length_nil];omega) fun ac w N ie jH S up gS d22=>?_
   clear up d22
   refine S.ge 8 (.cons (cO (k:Int) 1) .nil) f8 fun ac w β S=>g0.of (h.mem.length-(k+1)) _ _ (by omega) ⟨k+1,(acc++[(k:Int)]),ie,jH,_,_,_,rfl,?_,?_,S.z,gS⟩
   ·exact dn
   ·clear S;(first|(rw [pk (by first|assumption|(simp [*];done)|(simp;omega)),cD];done)|(rw [pj (by first|assumption|(simp [*];done)|(simp;omega)),cD];done)|(rw [pk (by simp_all<;>fail),cD];done)|(rw [pj (by simp_all<;>fail),cD];done))
  refine S.ge 8 (.cons (cO (k:Int) 1) .nil) f8 fun ac w β S=>g0.of (h.mem.length-(k+1)) _ _ (by omega) ⟨k+1,acc,bZ,b7,_,_,_,rfl,?_,?_,S.z,ak⟩
  ·exact dn
  ·clear S;(first|(rw [pk (by first|assumption|(simp [*];done)|(simp;omega)),cD];done)|(rw [pj (by first|assumption|(simp [*];done)|(simp;omega)),cD];done)|(rw [pk (by simp_all<;>fail),cD];done)|(rw [pj (by simp_all<;>fail),cD];done))
 refine S.aP 13 .nil [ab acc.length bZ.1] fun ac w β S=>?_
 exact cT S (show eN h=acc by clear S;(unfold eN;rw [cD,show h.mem.length=k by omega])) rfl ak
theorem Ss {p:Prop} (h:p:=by clear S;(first|(unfold gl;rw [if_pos (by omega)];done)|(unfold gl;rw [if_pos (by omega)];first|rfl|(simp;done))|(unfold gl;rw [if_neg (by omega)];done)|(unfold gl;rw [if_neg (by omega)];first|rfl|(simp;done)))):p:=h
theorem Gb (w0:World) (m:List (List Int)) (pm:af (List Int)) (hm:br w0 m pm) (page:Int):Calls Tryz.prog 164 [ab m.length pm.1,R page].toArray w0 (dZ aa w0 (gl m page:List Int)):=by
 refine Calls.run aa Tryz.func164 ?_
 intro ac β S
 have Aw:m.length<=4194304:=ag.le hm
 refine S.bs 15 (.cons (aY fun w hw=>gJ w page (m.length:Int) (by omega)) .nil) (!(aS page 0 ((m.length:Int)-1))) (fun ac w β h1 S=>?_) (fun ac w β h1 S=>?_)
 ·have ah:=cw h1
  have c3:=dC ah
  refine S.go 3 .nil fun ac w β S=>S.rT (α:=Int) (m:=4) (by':=8) (d:=10) (by omega) (show 4<=4194304 by omega) fun ac w N lN de S up a1 d7=>?_
  clear up d7
  refine S.aP 4 .nil [ab 4 lN.1] fun ac w β S=>?_
  exact cT S Ss (by rw [show 4=(List.replicate 4 (GT.dE:Int)).length from(by simp)];rfl) a1
 have e_:=cl h1
 have l_:=cM e_
 refine S.go 9 (.cons (cP (S.arg hm) page Tryz.underlying33) (.cons (cn (S.arg hm) 28 page.toNat) .nil)) fun ac w β S=>S.ct (r:=(el m page.toNat)) (d:=15) (xe w (el m page.toNat) (pm.2 page.toNat) (S.rd (ag.el (S.arg hm) page.toNat (by omega)))) fun ac w N dH dy S up aW d13=>?_
 clear up d13
 refine S.aP 4 .nil [ab (el m page.toNat).length dH.1] fun ac w β S=>?_
 exact cT S Ss rfl aW
theorem Yo (w0:World) (t:List aA) (aM:af aA) (bC:br w0 t aM) (page:Int):Calls Tryz.prog 192 [ab t.length aM.1,R page].toArray w0 (dZ aa w0 (kH t page:List Int)):=by
 refine Calls.run aa Tryz.func192 ?_
 intro ac β S
 have Dy:t.length<=4194304:=ag.le bC
 refine S.go 7 .nil fun ac w β S=>S.gx (α:=Int) (d:=8) fun ac w N ae aX S up au d4=>?_
 clear up d4
 refine S.go 12 .nil fun ac w β S=>?_
 refine ek (fun bG ac w=>∃(k:Nat) (acc:List Int) (bZ:_) (b7:_) (u:_) (N:_) (β:_),bG=t.length-k/\(k<=t.length)/\(acc=j3 k (fun i=>decide ((el t i).page=page)))/\aj Tryz.prog Tryz.f192.ntmps w0 aa u N β ⟨[(1,.v (R page)),(5,.v (ab acc.length bZ.1)),(9,.v (ab t.length aM.1)),(10,.v (R (t.length:Int))),(11,.v (R (k:Int)))],[]⟩ ac w/\ai w0 aa u N b7 acc bZ) _ ⟨0,([]:List Int),ae,aX,_,_,_,rfl,cL,(by rfl),S.z,au⟩ ?_
 clear S au
 rintro f8 bG g0 ac w ⟨k,acc,bZ,b7,u,N,β,rfl,hk,cD,S,ak⟩
 refine S.rs fun S=>?_
 have lH:acc.length<=k:=by rw [cD];exact AM _ _
 refine S.a8 6 .nil (decide ((k:Int)<(t.length:Int))) (fun ac w β dq fM S=>?_) (fun ac w β dq fM S=>?_)
 ·refine S.a8 23 (.cons (cA (S.arg bC) k Tryz.underlying66) (.cons (dR (S.arg bC) 77 k) .nil)) ((el t k).page==page) (fun ac w β eU l9 S=>?_) (fun ac w β eU l9 S=>?_)
  ·refine S.go 4 .nil fun ac w β S=>S.hB (α:=Int) (x:=(k:Int)) (p:=()) (F:=aa) ⟨by omega,by omega⟩ (fun b h=>False.elim h) (fun b h=>False.elim h) (d:=22) fun ac w N lp kv S up dd d17=>?_
   replace ak:=ak.up up
   clear up d17
   refine S.kj (α:=Int) ak dd.al (fun _ _ h=>h) (by':=8) (d:=23) (lx:=acc.length) (ly:=1) rfl rfl (show _<=4194304 by simp only [List.length_append,List.length_cons,List.length_nil];omega) fun ac w N ie jH S up gS d22=>?_
   clear up d22
   refine S.ge 8 (.cons (cO (k:Int) 1) .nil) f8 fun ac w β S=>g0.of (t.length-(k+1)) _ _ (by omega) ⟨k+1,(acc++[(k:Int)]),ie,jH,_,_,_,rfl,?_,?_,S.z,gS⟩
   ·exact dn
   ·clear S;(first|(rw [pk (by first|assumption|(simp [*];done)|(simp;omega)),cD];done)|(rw [pj (by first|assumption|(simp [*];done)|(simp;omega)),cD];done)|(rw [pk (by simp_all<;>fail),cD];done)|(rw [pj (by simp_all<;>fail),cD];done))
  refine S.ge 8 (.cons (cO (k:Int) 1) .nil) f8 fun ac w β S=>g0.of (t.length-(k+1)) _ _ (by omega) ⟨k+1,acc,bZ,b7,_,_,_,rfl,?_,?_,S.z,ak⟩
  ·exact dn
  ·clear S;(first|(rw [pk (by first|assumption|(simp [*];done)|(simp;omega)),cD];done)|(rw [pj (by first|assumption|(simp [*];done)|(simp;omega)),cD];done)|(rw [pk (by simp_all<;>fail),cD];done)|(rw [pj (by simp_all<;>fail),cD];done))
 refine S.aP 13 .nil [ab acc.length bZ.1] fun ac w β S=>?_
 exact cT S (show kH t page=acc by clear S;(unfold kH;rw [cD,show t.length=k by omega])) rfl ak
theorem JW {p:Prop} (h:p:=by clear S;(unfold gL;(repeat' split)<;>first|rfl|(exfalso;omega)|(exfalso;simp_all;done))):p:=h
theorem F8 (w0:World) (k:bO) (fH:hI) (hk:br w0 k fH) (page:Int):Calls Tryz.prog 82 [GT.val k fH,R page].toArray w0 (dZ aa w0 (gL k page:bO)):=by
 refine Calls.run aa Tryz.func82 ?_
 intro ac β S
 have x_:k.known.length<=4194304:=ag.le (hV.known (d:=k) hk)
 have ya:k.bN.length<=4194304:=ag.le (hV.bN (d:=k) hk)
 refine S.go 9 .nil fun ac w β S=>S.ct (r:=k) (d:=7) (zv w k fH (S.rd (S.arg hk))) fun ac w N ae aX S up au d4=>?_
 clear up d4
 obtain⟨de,eE,a1,a6,_,_,d11⟩:=yV au
 refine S.bs 13 (.cons (aY fun w hw=>gJ w page (k.known.length:Int) (by omega)) .nil) (aS page 0 ((k.known.length:Int)-1)) (fun ac w β eU S=>?_) (fun ac w β eU S=>?_)
 ·have l9:=cM eU
  refine S.bs 8 (.cons (aY fun w hw=>gJ w page (k.bN.length:Int) (by omega)) .nil) (aS page 0 ((k.bN.length:Int)-1)) (fun ac w β ju S=>?_) (fun ac w β ju S=>?_)
  ·have se:=cM ju
   refine S.go 7 (.cons (cP a1.al page Tryz.underlying67) .nil) fun ac w β S=>S.kV (α:=Bool) a1 (t:=4) (k:=page.toNat) (j:=0) (off:=ae.known.1.off+page.toNat*1) (v:=B false) (y:=false) (q:=()) (fun _ _ _=>⟨aa,trivial,fun _ h=>False.elim h⟩) fun w N cm nB S up dd d19 ar7 agN=>?_
   have d22:=d19 _ (J.symm d11) (fun b _ h=>False.elim h) a6.sub
   replace a6:=a6.bp (J.symm d11) up
   clear up d19 a1 agN
   have afV:(k.known.set page.toNat false).length=k.known.length:=List.length_set
   replace S:=S.z (σ':=⟨[(1,.v (R page)),(4,.p 1 0),(5,.p 2 0),(23,.v (aM ae.known.1.b (ae.known.1.off+page.toNat*1)))],[GT.cells k fH,c2 bO,[ab (k.known.set page.toNat false).length ae.known.1,ab k.bN.length ae.bN.1]]⟩) (by rw [show(k.known.set page.toNat false).length=k.known.length by omega]<;>kernel_rfl)
   refine S.is fun S=>?_
   refine S.go 2 .nil fun ac w β S=>?_
   refine dj ?_
   refine S.df (f:=6) 5 (by kernel_rfl) (by kernel_rfl) fun w S=>?_
   refine S.hm 3 [0,1,2] [] [(25,.v (ab k.bN.length ae.bN.1)),(26,.v (R page))] .nil fun ac S=>?_
   refine S.jk 3 [] [(27,.v (GT.val (⟨-1,0⟩:aA) ()))] 3 [] (.cons (aY fun w hw=>m5 w) .nil) fun ac w β S=>?_
   refine S.aI 4 [4] [] [(28,.v (aM ae.bN.1.b (ae.bN.1.off+page.toNat*2)))] (.cons (cP a6.al page Tryz.underlying66) .nil) fun ac S=>?_
   refine ao.one (i:=5) (by kernel_rfl) ?_
   have O3:fx (el k.bN page.toNat):=(ag.el a6.al page.toNat (by omega))
   refine id (S.BH (α:=aA) a6 (t:=77) (k:=page.toNat) (j:=0) (off:=ae.bN.1.off+page.toNat*2) (v:=GT.val (⟨-1,0⟩:aA) ()) (y:=(⟨-1,0⟩:aA)) (q:=()) (fun _ _ _=>⟨aa,(show fx ⟨-1,0⟩ from⟨⟨by decide,by decide⟩,⟨by decide,by decide⟩⟩),fun _ h=>False.elim h⟩) fun w N eu g2 S up eI d28 UI En=>?_)
   refine ao.last (by kernel_rfl) ?_
   have d31:=d28 _ (J.symm d22) (fun b _ h=>False.elim h) dd.sub
   replace dd:=dd.bp (J.symm d22) up
   clear up d28 a6 En
   have afY:(k.bN.set page.toNat (⟨-1,0⟩:aA)).length=k.bN.length:=List.length_set
   replace S:=S.z (σ':=⟨[(4,.p 1 0),(5,.p 2 0),(27,.v (GT.val (⟨-1,0⟩:aA) ())),(28,.v (aM ae.bN.1.b (ae.bN.1.off+page.toNat*2)))],[GT.cells k fH,c2 bO,[ab (k.known.set page.toNat false).length ae.known.1,ab (k.bN.set page.toNat (⟨-1,0⟩:aA)).length ae.bN.1]]⟩) (by rw [show(k.bN.set page.toNat (⟨-1,0⟩:aA)).length=k.bN.length by omega]<;>kernel_rfl)
   refine ao.done (by kernel_rfl) ?_ _
   refine S.ex fun S=>?_
   refine S.aP 8 .nil [GT.val (⟨(k.known.set page.toNat false),(k.bN.set page.toNat (⟨-1,0⟩:aA))⟩:bO) (⟨(ae.known.1,nB),(ae.bN.1,g2)⟩:hI)] fun ac w β S=>?_
   have gr:=pD (x:=(⟨(k.known.set page.toNat false),(k.bN.set page.toNat (⟨-1,0⟩:aA))⟩:bO)) (p:=(⟨(ae.known.1,nB),(ae.bN.1,g2)⟩:hI)) dd eI d31
   exact cT S JW rfl gr
  have tR:=dC ju
  refine S.aP 10 .nil [GT.val k ae] fun ac w β S=>?_
  have jy:=pD (x:=k) (p:=ae) a1 a6 d11
  exact cT S JW rfl jy
 have Dd:=dC eU
 refine S.aP 18 .nil [GT.val k ae] fun ac w β S=>?_
 have eO:=pD (x:=k) (p:=ae) a1 a6 d11
 exact cT S JW rfl eO
theorem XJ (w0:World) (k:bO) (fH:hI) (hk:br w0 k fH) (inner:List aA) (qs:af aA) (so:br w0 inner qs) (page:Int):Calls Tryz.prog 168 [GT.val k fH,ab inner.length qs.1,R page].toArray w0 (dZ aa w0 (r9 k inner page:bO)):=by
 refine Calls.run aa Tryz.func168 ?_
 intro ac β S
 have x_:k.known.length<=4194304:=ag.le (hV.known (d:=k) hk)
 have ya:k.bN.length<=4194304:=ag.le (hV.bN (d:=k) hk)
 have Rs:inner.length<=4194304:=ag.le so
 refine S.go 9 .nil fun ac w β S=>S.ct (r:=k) (d:=11) (zv w k fH (S.rd (S.arg hk))) fun ac w N ae aX S up au d4=>?_
 clear up d4
 obtain⟨de,eE,a1,a6,_,_,d11⟩:=yV au
 refine S.go 9 .nil fun ac w β S=>S.ct (r:=kH inner page) (d:=14) (Yo w inner qs (S.rd (S.arg so)) page) fun ac w N gF fP S up cJ d15=>?_
 have d16:=J.w d15 a1.sub
 have d17:=J.w d15 a6.sub
 replace a1:=a1.up up
 replace a6:=a6.up up
 clear up d15
 refine S.go 5 .nil fun ac w β S=>?_
 refine ek (fun bG ac w=>∃(i:Nat) (jx:List Bool) (b8:List aA) (nB:_) (kT:_) (jO:_) (hR:_) (u:_) (N:_) (β:_),bG=(kH inner page).length-i/\(i<=(kH inner page).length)/\((⟨jx,b8⟩:bO)=((kH inner page).take i).foldl gL k)/\aj Tryz.prog Tryz.f168.ntmps w0 aa u N β ⟨[(6,.p 1 0),(7,.p 2 0),(14,.v (ab (kH inner page).length gF.1)),(15,.v (R ((kH inner page).length:Int))),(16,.v (R (i:Int)))],[GT.cells k fH,c2 bO,[ab jx.length nB.1,ab b8.length jO.1]]⟩ ac w/\ai w0 aa u N kT jx nB/\ai w0 aa u N hR b8 jO/\ai w0 aa u N fP (kH inner page) gF/\J kT hR/\J kT fP/\J hR fP) _ ⟨0,k.known,k.bN,ae.known,de,ae.bN,eE,_,_,_,rfl,cL,(by rfl),S.z,a1,a6,cJ,d11,d16,d17⟩ ?_
 clear S cJ a1 a6
 rintro f27 bG aem ac w ⟨i,jx,b8,nB,kT,jO,hR,u,N,β,rfl,hi,bm,S,en,bY,cJ,d24,d25,d26⟩
 refine S.rs fun S=>?_
 have aqg:(kH inner page).length<=inner.length:=AM _ _
 refine S.a8 6 .nil (decide ((i:Int)<((kH inner page).length:Int))) (fun ac w β jv sf S=>?_) (fun ac w β jv sf S=>?_)
 ·refine S.go 15 (.cons (cA cJ.al i Tryz.underlying28) (.cons (cn cJ.al 3 i) .nil)) fun ac w β S=>S.ct (r:=gL (⟨jx,b8⟩:bO) (el (kH inner page) i)) (d:=22) (F8 w (⟨jx,b8⟩:bO) (⟨nB,jO⟩:hI) (S.rd (show GT.rd bz _ _ (⟨jx,b8⟩:bO) (⟨nB,jO⟩:hI) from⟨en.al,bY.al⟩)) (el (kH inner page) i)) fun ac w N n0 nI S up gr d34=>?_
  have d37:=J.w d34 cJ.sub
  replace en:=en.up up
  replace bY:=bY.up up
  replace cJ:=cJ.up up
  clear up d34
  obtain⟨qJ,oW,wk,kc,akP,akR,d44⟩:=yV gr
  refine S.ge 8 (.cons (cO (i:Int) 1) .nil) f27 fun ac w β S=>aem.of ((kH inner page).length-(i+1)) _ _ (by omega) ⟨i+1,(gL (⟨jx,b8⟩:bO) (el (kH inner page) i)).known,(gL (⟨jx,b8⟩:bO) (el (kH inner page) i)).bN,n0.known,qJ,n0.bN,oW,_,_,_,rfl,?_,?_,S.z,wk,kc,cJ,d44,(J.part (J.symm d37) akP),(J.part (J.symm d37) akR)⟩
  ·exact dn
  ·clear S;(rw [zV (by omega),←bm])
 refine S.aP 13 .nil [GT.val (⟨jx,b8⟩:bO) (⟨nB,jO⟩:hI)] fun ac w β S=>?_
 have fu:=pD (x:=(⟨jx,b8⟩:bO)) (p:=(⟨nB,jO⟩:hI)) en bY d24
 exact cT S (show r9 k inner page=(⟨jx,b8⟩:bO) by clear S;(unfold r9;rw [abd (by omega)] at bm;exact bm.symm)) rfl fu
theorem XG (w0:World) (tA:a0) (host:Int) (rL:af Int) (vU:br w0 [host] rL):Calls Tryz.prog 193 [GT.val tA (),aM rL.1.b (rL.1.off+0*1)].toArray w0 (fun e w'=>e= .returned (B (q7 tA host))/\bX aa w0 w'):=by
 refine Calls.run aa Tryz.func193 ?_
 intro ac β S
 exact S.bb 16 (.cons (e8 (S.arg vU) (t:=3) (k:=0) (Nat.succ_pos 0) rfl (by kernel_rfl)) .nil) [B (tA.host==host)] (b4 (by clear S;rfl))
theorem XH (w0:World) (tA:a0) (tag:Int) (rM:af Int) (vZ:br w0 [tag] rM) (page:Int) (hh:af Int) (dV:br w0 [page] hh):Calls Tryz.prog 153 [GT.val tA (),aM rM.1.b (rM.1.off+0*1),aM hh.1.b (hh.1.off+0*1)].toArray w0 (fun e w'=>e= .returned (B (ij tA tag page))/\bX aa w0 w'):=by
 refine Calls.run aa Tryz.func153 ?_
 intro ac β S
 refine S.a8 13 (.cons (e8 (S.arg vZ) (t:=3) (k:=0) (Nat.succ_pos 0) rfl (by kernel_rfl)) .nil) (tA.tag==tag) (fun ac w β h1 bM S=>?_) (fun ac w β h1 bM S=>?_)
 ·exact S.bb 9 (.cons (e8 (S.arg dV) (t:=3) (k:=0) (Nat.succ_pos 0) rfl (by kernel_rfl)) .nil) [B (tA.page==page)] (b4 (by clear S;(first|(rw [EY (by assumption)];done)|(unfold ij;simp [*];done))))
 exact S.bb 9 .nil [B false] (b4 (by clear S;(first|(rw [EY (by assumption)];done)|(unfold ij;simp [*];done))))
theorem Yx (w0:World) (b:List a0) (aQ:af a0) (hb:br w0 b aQ) (host:Int) (rL:af Int) (vU:br w0 [host] rL):Calls Tryz.prog 152 [ab b.length aQ.1,.func (.func 193) #[] #[aM rL.1.b (rL.1.off+0*1)]].toArray w0 (dZ aa w0 (j5 b (fun e=>q7 e host):List a0)):=by
 refine Calls.run aa Tryz.func152 ?_
 intro ac β S
 have pg:b.length<=4194304:=ag.le hb
 refine S.go 7 .nil fun ac w β S=>S.gx (α:=a0) (d:=8) fun ac w N ae aX S up au d4=>?_
 clear up d4
 refine S.go 12 .nil fun ac w β S=>?_
 refine ek (fun bG ac w=>∃(k:Nat) (acc:List a0) (bZ:_) (b7:_) (u:_) (N:_) (β:_),bG=b.length-k/\(k<=b.length)/\(acc=j5 (b.take k) (fun e=>q7 e host))/\aj Tryz.prog Tryz.f152.ntmps w0 aa u N β ⟨[(1,.v (.func (.func 193) #[] #[aM rL.1.b (rL.1.off+0*1)])),(5,.v (ab acc.length bZ.1)),(9,.v (ab b.length aQ.1)),(10,.v (R (b.length:Int))),(11,.v (R (k:Int)))],[]⟩ ac w/\ai w0 aa u N b7 acc bZ) _ ⟨0,([]:List a0),ae,aX,_,_,_,rfl,cL,(by rfl),S.z,au⟩ ?_
 clear S au
 rintro f8 bG g0 ac w ⟨k,acc,bZ,b7,u,N,β,rfl,hk,cD,S,ak⟩
 refine S.rs fun S=>?_
 have lH:acc.length<=k:=by rw [cD];exact Nat.le_trans (Fi _ _) (List.length_take_le _ _)
 refine S.a8 6 .nil (decide ((k:Int)<(b.length:Int))) (fun ac w β dq fM S=>?_) (fun ac w β dq fM S=>?_)
 ·refine S.bs 21 (.cons (cA (S.arg hb) k Tryz.underlying35) (.cons (dR (S.arg hb) 177 k) (.cons (aY fun w hw=>XG w (el b k) host rL (cQ (S.arg vU) hw)) .nil))) (!(q7 (el b k) host)) (fun ac w β eU S=>?_) (fun ac w β eU S=>?_)
  ·have ni:=cw eU
   refine S.go 4 .nil fun ac w β S=>S.hB (α:=a0) (x:=(el b k)) (p:=()) (F:=aa) (ag.el (S.arg hb) k (by omega)) (fun b h=>False.elim h) (fun b h=>False.elim h) (d:=21) fun ac w N lp kv S up dd d17=>?_
   replace ak:=ak.up up
   clear up d17
   refine S.kj (α:=a0) ak dd.al (fun _ _ h=>h) (by':=32) (d:=22) (lx:=acc.length) (ly:=1) rfl rfl (show _<=4194304 by simp only [List.length_append,List.length_cons,List.length_nil];omega) fun ac w N ie jH S up gS d22=>?_
   clear up d22
   refine S.ge 8 (.cons (cO (k:Int) 1) .nil) f8 fun ac w β S=>g0.of (b.length-(k+1)) _ _ (by omega) ⟨k+1,(acc++[(el b k)]),ie,jH,_,_,_,rfl,?_,?_,S.z,gS⟩
   ·exact dn
   ·clear S;(first|(rw [Fj (by omega) (by assumption),cD];done)|(rw [Fh (by omega) (by assumption),cD];done))
  have fR:=cl eU
  refine S.ge 8 (.cons (cO (k:Int) 1) .nil) f8 fun ac w β S=>g0.of (b.length-(k+1)) _ _ (by omega) ⟨k+1,acc,bZ,b7,_,_,_,rfl,?_,?_,S.z,ak⟩
  ·exact dn
  ·clear S;(first|(rw [Fj (by omega) (by assumption),cD];done)|(rw [Fh (by omega) (by assumption),cD];done))
 refine S.aP 13 .nil [ab acc.length bZ.1] fun ac w β S=>?_
 exact cT S (show j5 b (fun e=>q7 e host)=acc by clear S;(rw [cD,fj (by omega)])) rfl ak
theorem Yy (w0:World) (b:List a0) (aQ:af a0) (hb:br w0 b aQ) (tag:Int) (rM:af Int) (vZ:br w0 [tag] rM) (page:Int) (hh:af Int) (dV:br w0 [page] hh):Calls Tryz.prog 152 [ab b.length aQ.1,.func (.func 153) #[] #[aM rM.1.b (rM.1.off+0*1),aM hh.1.b (hh.1.off+0*1)]].toArray w0 (dZ aa w0 (j5 b (fun e=>ij e tag page):List a0)):=by
 refine Calls.run aa Tryz.func152 ?_
 intro ac β S
 have pg:b.length<=4194304:=ag.le hb
 refine S.go 7 .nil fun ac w β S=>S.gx (α:=a0) (d:=8) fun ac w N ae aX S up au d4=>?_
 clear up d4
 refine S.go 12 .nil fun ac w β S=>?_
 refine ek (fun bG ac w=>∃(k:Nat) (acc:List a0) (bZ:_) (b7:_) (u:_) (N:_) (β:_),bG=b.length-k/\(k<=b.length)/\(acc=j5 (b.take k) (fun e=>ij e tag page))/\aj Tryz.prog Tryz.f152.ntmps w0 aa u N β ⟨[(1,.v (.func (.func 153) #[] #[aM rM.1.b (rM.1.off+0*1),aM hh.1.b (hh.1.off+0*1)])),(5,.v (ab acc.length bZ.1)),(9,.v (ab b.length aQ.1)),(10,.v (R (b.length:Int))),(11,.v (R (k:Int)))],[]⟩ ac w/\ai w0 aa u N b7 acc bZ) _ ⟨0,([]:List a0),ae,aX,_,_,_,rfl,cL,(by rfl),S.z,au⟩ ?_
 clear S au
 rintro f8 bG g0 ac w ⟨k,acc,bZ,b7,u,N,β,rfl,hk,cD,S,ak⟩
 refine S.rs fun S=>?_
 have lH:acc.length<=k:=by rw [cD];exact Nat.le_trans (Fi _ _) (List.length_take_le _ _)
 refine S.a8 6 .nil (decide ((k:Int)<(b.length:Int))) (fun ac w β dq fM S=>?_) (fun ac w β dq fM S=>?_)
 ·refine S.bs 21 (.cons (cA (S.arg hb) k Tryz.underlying35) (.cons (dR (S.arg hb) 177 k) (.cons (aY fun w hw=>XH w (el b k) tag rM (cQ (S.arg vZ) hw) page hh (cQ (S.arg dV) hw)) .nil))) (!(ij (el b k) tag page)) (fun ac w β eU S=>?_) (fun ac w β eU S=>?_)
  ·have ni:=cw eU
   refine S.go 4 .nil fun ac w β S=>S.hB (α:=a0) (x:=(el b k)) (p:=()) (F:=aa) (ag.el (S.arg hb) k (by omega)) (fun b h=>False.elim h) (fun b h=>False.elim h) (d:=21) fun ac w N lp kv S up dd d17=>?_
   replace ak:=ak.up up
   clear up d17
   refine S.kj (α:=a0) ak dd.al (fun _ _ h=>h) (by':=32) (d:=22) (lx:=acc.length) (ly:=1) rfl rfl (show _<=4194304 by simp only [List.length_append,List.length_cons,List.length_nil];omega) fun ac w N ie jH S up gS d22=>?_
   clear up d22
   refine S.ge 8 (.cons (cO (k:Int) 1) .nil) f8 fun ac w β S=>g0.of (b.length-(k+1)) _ _ (by omega) ⟨k+1,(acc++[(el b k)]),ie,jH,_,_,_,rfl,?_,?_,S.z,gS⟩
   ·exact dn
   ·clear S;(first|(rw [Fj (by omega) (by assumption),cD];done)|(rw [Fh (by omega) (by assumption),cD];done))
  have fR:=cl eU
  refine S.ge 8 (.cons (cO (k:Int) 1) .nil) f8 fun ac w β S=>g0.of (b.length-(k+1)) _ _ (by omega) ⟨k+1,acc,bZ,b7,_,_,_,rfl,?_,?_,S.z,ak⟩
  ·exact dn
  ·clear S;(first|(rw [Fj (by omega) (by assumption),cD];done)|(rw [Fh (by omega) (by assumption),cD];done))
 refine S.aP 13 .nil [ab acc.length bZ.1] fun ac w β S=>?_
 exact cT S (show j5 b (fun e=>ij e tag page)=acc by clear S;(rw [cD,fj (by omega)])) rfl ak
theorem N5 (w0:World) (b:List a0) (aQ:af a0) (hb:br w0 b aQ) (host:Int) (vU:aq host):Calls Tryz.prog 169 [ab b.length aQ.1,R host].toArray w0 (dZ aa w0 (oh b host:List a0)):=by
 refine Calls.run aa Tryz.func169 ?_
 intro ac β S
 have pg:b.length<=4194304:=ag.le hb
 have ap1:=vU.b9;have apu:=vU.hi
 refine S.go 7 .nil fun ac w β S=>?_
 refine S.h5 0 host () vU fun β N bd aX S up au d4=>?_
 clear up d4
 refine S.go 3 .nil fun ac w β S=>S.ct (r:=j5 b (fun e=>q7 e host)) (d:=7) (Yx w b aQ (S.rd (S.arg hb)) host (aB bd ():af Int) (S.rd au.al)) fun ac w N bZ b7 S up ak d8=>?_
 clear up d8
 refine S.aP 4 .nil [ab (j5 b (fun e=>q7 e host)).length bZ.1] fun ac w β S=>?_
 exact cT S (show oh b host=(j5 b (fun e=>q7 e host)) by clear S;rfl) rfl ak
theorem SA {p:Prop} (h:p:=by clear S;((have aeB:k=(el h.I m.toNat).U.length:=(by omega));subst aeB;subst jw;unfold oi;first|(rw [Pv (by assumption),Pv (by assumption)];done)|(rw [Pt (by assumption),Pt (by assumption)];done))):p:=h
theorem Cy (w0:World) (h:ad) (cz:af ad) (F:aw) (ax:GT.own bz F w0 [h] cz) (eb:∀b,F b->b<w0.heap.size) (m:Int) (page:Int) (s:aA) (hs:fx s) (jh:(0<=m/\m<h.I.length)/\(el h.I m.toNat).tables.length=(el h.I m.toNat).U.length):Calls Tryz.prog 105 [aM cz.1.b (cz.1.off+0*4),R m,R page,GT.val s ()].toArray w0 (tf oy F cz w0 (packed []) (oi h m page s)):=by
 refine Calls.run F Tryz.func105 ?_
 intro ac β S
 have eZ:ai w0 F w0 (ga w0.heap.size) F [h] cz:=⟨ax,eb,fun b hb=> .inr hb⟩
 have bd:(el h.I m.toNat).U.length<=4194304:=ag.le (bn.U (d:=(el h.I m.toNat)) (ag.el (di eZ.al) m.toNat (by omega)))
 refine S.go 28 (.cons (g7 eZ.al (t:=34) (k:=0) (j:=1) (v:=ab h.I.length (cz.2 0).I.1) (Nat.succ_pos 0) (by kernel_rfl) (by kernel_rfl)) (.cons (cP (di eZ.al) m Tryz.underlying34) (.cons (dG (di eZ.al) 68 m.toNat 3 (ab (el h.I m.toNat).U.length ((cz.2 0).I.2 m.toNat).U.1)) .nil))) fun ac w β S=>?_
 refine ek (fun bG ac w=>∃(k:Nat) (X:List aZ) (eP:Nat->cK) (cR:_) (u:_) (N:_) (β:_),bG=(el h.I m.toNat).U.length-k/\(k<=(el h.I m.toNat).U.length)/\(X=h.I.set m.toNat {el h.I m.toNat with tables:=ng (el h.I m.toNat).tables (el h.I m.toNat).U page k})/\aj Tryz.prog Tryz.f105.ntmps w0 F u N β ⟨[(0,.v (aM cz.1.b (cz.1.off+0*4))),(2,.v (R page)),(7,.p 0 0),(8,.v (aM (cz.2 0).I.1.b ((cz.2 0).I.1.off+m.toNat*9))),(20,.v (R ((el h.I m.toNat).U.length:Int))),(21,.v (R (k:Int)))],[GT.cells s ()]⟩ ac w/\ai w0 F u N cR ([(⟨h.mem,X,h.buf,h.ar⟩:ad)]) ((cz.1,eP):af ad)/\(eP 0).I.1=(cz.2 0).I.1) _ ⟨0,h.I,cz.2,F,_,_,_,rfl,cL,(by exact UQ.symm),S.z,eZ,rfl⟩ ?_
 clear S eZ
 rintro f6 bG Dt ac w ⟨k,X,eP,cR,u,N,β,rfl,hk,jw,S,eY,lI⟩
 refine S.rs fun S=>?_
 obtain⟨hl,he⟩:=E2 jw (show m.toNat<h.I.length by omega) (BT _ _ _ _)
 refine S.a8 6 .nil (decide ((k:Int)<((el h.I m.toNat).U.length:Int))) (fun ac w β e_ l_ S=>?_) (fun ac w β e_ l_ S=>?_)
 ·refine S.go 11 .nil fun ac w β S=>?_
  refine dj ?_
  refine S.df (f:=24) 23 (by kernel_rfl) (by kernel_rfl) fun w S=>?_
  refine S.hm 3 [0,1,2,3,4,5,6,7,8,9,10,11,12,13,14,15,16,17,18,19,20] [] [(27,.v (ab (el X m.toNat).tables.length (((eP 0).I.2) m.toNat).tables.1)),(28,.v (R (k:Int))),(35,.v (GT.val (el (el X m.toNat).tables k) ((((eP 0).I.2) m.toNat).tables.2 k))),(43,.v (ab (el (el X m.toNat).U k).live.length ((((eP 0).I.2) m.toNat).U.2 k).live.1)),(44,.v (R page))] (.cons (dG (gG lI (gY eY.al)) 69 m.toNat 7 (ab (el X m.toNat).tables.length (((eP 0).I.2) m.toNat).tables.1)) (.cons (dG (gG lI (gY eY.al)) 69 m.toNat 7 (ab (el X m.toNat).tables.length (((eP 0).I.2) m.toNat).tables.1)) (.cons (cA (bn.tables (d:=(el X m.toNat)) (ag.el (gG lI (gY eY.al)) m.toNat (by omega))) k Tryz.underlying69) (.cons (dR (bn.tables (d:=(el X m.toNat)) (ag.el (gG lI (gY eY.al)) m.toNat (by omega))) 105 k) (.cons (dG (gG lI (gY eY.al)) 68 m.toNat 3 (ab (el X m.toNat).U.length (((eP 0).I.2) m.toNat).U.1)) (.cons (cA (bn.U (d:=(el X m.toNat)) (ag.el (gG lI (gY eY.al)) m.toNat (by omega))) k Tryz.underlying68) (.cons (dG (bn.U (d:=(el X m.toNat)) (ag.el (gG lI (gY eY.al)) m.toNat (by omega))) 66 k 4 (ab (el (el X m.toNat).U k).live.length ((((eP 0).I.2) m.toNat).U.2 k).live.1)) .nil))))))) fun ac S=>?_
  refine ao.one (i:=21) (by kernel_rfl) ?_
  refine id (S.cH 45 (XJ w (el (el X m.toNat).tables k) ((((eP 0).I.2) m.toNat).tables.2 k) (S.rd (ag.el (bn.tables (d:=(el X m.toNat)) (ag.el (gG lI (gY eY.al)) m.toNat (by omega))) k (by omega))) (el (el X m.toNat).U k).live ((((eP 0).I.2) m.toNat).U.2 k).live (S.rd (a5.live (d:=(el (el X m.toNat).U k)) (ag.el (bn.U (d:=(el X m.toNat)) (ag.el (gG lI (gY eY.al)) m.toNat (by omega))) k (by omega)))) page) fun ac w N dH dy S up aW d13=>?_)
  refine ao.next S up (by kernel_rfl) ?_
  have d14:=J.w d13 eY.sub
  replace eY:=eY.up up
  clear up d13
  refine S.aI 22 [22] [] [(46,.v (aM (((eP 0).I.2) m.toNat).tables.1.b ((((eP 0).I.2) m.toNat).tables.1.off+k*2)))] (.cons (cA (bn.tables (d:=(el X m.toNat)) (ag.el (gG lI (gY eY.al)) m.toNat (by omega))) k Tryz.underlying69) .nil) fun ac S=>?_
  refine ao.one (i:=23) (by kernel_rfl) ?_
  obtain⟨kv,dd,uX,NL⟩:=nN eY (fun _ o=>zU o (k:=m.toNat) (show m.toNat<X.length by omega))
  change ai w0 F _ _ kv (el X m.toNat).tables (((eP 0).I.2) m.toNat).tables at dd
  have Ef:=ag.le dd.al
  have aro:=dd.sub
  refine id (S.n4 (α:=bO) dd (t:=105) (k:=k) (off:=(((eP 0).I.2) m.toNat).tables.1.off+k*2) aW (J.symm (J.symm (J.part d14 uX))) fun w N hR e0 S up gS d24 akK KK=>?_)
  refine ao.last (by kernel_rfl) ?_
  clear d24 dd
  obtain⟨Lt,eo,RT⟩:=NL _ _ _ _ _ dy up gS akK d14 List.length_set KK
  obtain⟨Nv,Qn⟩:∃z,z=X.set m.toNat {el X m.toNat with tables:=((el X m.toNat).tables.set k (r9 (el (el X m.toNat).tables k) (el (el X m.toNat).U k).live page))}:=⟨_,rfl⟩
  have fN:ai w0 F w N (Or cR hR) [(⟨h.mem,Nv,h.buf,h.ar⟩:ad)] ((cz.1,Lt):af ad):=by rw [Qn];exact eo
  obtain⟨SU,anT⟩:=E2 Qn (show m.toNat<X.length by omega) List.length_set
  change (Lt 0).I.1=(eP 0).I.1 at RT
  clear up gS KK eo
  refine ao.done (by kernel_rfl) ?_ _
  refine S.ex fun S=>?_
  refine S.ge 6 (.cons (cO (k:Int) 1) .nil) f6 fun ac w β S=>Dt.of ((el h.I m.toNat).U.length-(k+1)) _ _ (by omega) ⟨k+1,Nv,Lt,(Or cR hR),_,_,_,rfl,?_,?_,S.z,fN,(RT.trans lI)⟩
  ·exact dn
  ·clear S;(subst_vars;rw [List.set_set];simp only [fg (show m.toNat<h.I.length by omega),ng,alv _ _ _ (Nat.le_refl _)])
 refine S.a8 13 .nil (s.page != (-1)) (fun ac w β re zX S=>?_) (fun ac w β re zX S=>?_)
 ·refine S.go 2 .nil fun ac w β S=>?_
  refine dj ?_
  refine S.df (f:=11) 10 (by kernel_rfl) (by kernel_rfl) fun w S=>?_
  refine S.hm 4 [0,1,2,3,4,5,6] [] [(51,.v (aM cz.1.b (cz.1.off+0*4))),(55,.v (ab h.buf.length (eP 0).buf.1)),(57,.v (R s.page))] (.cons (g7 eY.al (t:=35) (k:=0) (j:=2) (v:=ab h.buf.length (eP 0).buf.1) (Nat.succ_pos 0) (by kernel_rfl) (by kernel_rfl)) .nil) fun ac S=>?_
  refine ao.one (i:=7) (by kernel_rfl) ?_
  refine id (S.cH 58 (N5 w h.buf (eP 0).buf (S.rd (Oy eY.al)) s.page (fx.page (d:=s) hs)) fun ac w N n1 qK S up ln d41=>?_)
  refine ao.next S up (by kernel_rfl) ?_
  have d42:=J.w d41 eY.sub
  replace eY:=eY.up up
  clear up d41
  refine S.aI 8 [9,8] [] [(59,.v (aM cz.1.b (cz.1.off+0*4)))] .nil fun ac S=>?_
  refine S.aI 9 [9] [] [(60,.v (aM cz.1.b (cz.1.off+0*4+2)))] .nil fun ac S=>?_
  refine ao.one (i:=10) (by kernel_rfl) ?_
  refine id (S.qz (α:=ad) eY (t:=35) (v:=ab (oh h.buf s.page).length n1.1) (k:=0) (j:=2) (off:=cz.1.off+0*4+2) (y:=(⟨h.mem,X,(oh h.buf s.page),h.ar⟩:ad)) (q:=({(eP 0) with buf:=n1}:cK)) (Fy:=qK) (by kernel_rfl) (by kernel_rfl) (Nat.succ_pos 0) (by kernel_rfl) (by kernel_rfl) (Nat.le_of_ble_eq_true (by kernel_rfl)) (by kernel_rfl) (fun G ha j6=>⟨_,Lh ha ln.own (fun b h ah=>d42 b (j6 b h) ah),fun _ h=>h⟩) d42 ln.sub ln.cU fun w N lW S up oH d46 L4 agU=>?_)
  refine ao.last (by kernel_rfl) ?_
  obtain⟨sZ,gh,ae6⟩:∃sZ:Nat->cK,ai w0 F _ _ lW [(⟨h.mem,X,(oh h.buf s.page),h.ar⟩:ad)] ((cz.1,sZ):af ad)/\(sZ 0).I.1=(eP 0).I.1:=⟨_,oH,rfl⟩
  clear up d46 eY oH L4 agU
  refine ao.done (by kernel_rfl) ?_ _
  refine S.ex fun S=>?_
  refine S.go 1 .nil fun ac w β S=>?_
  refine dj ?_
  refine S.df (f:=11) 10 (by kernel_rfl) (by kernel_rfl) fun w S=>?_
  refine S.hm 4 [0,1,2,3,4,5,6] [] [(61,.v (aM cz.1.b (cz.1.off+0*4))),(65,.v (ab h.ar.length (sZ 0).ar.1)),(67,.v (R s.page))] (.cons (g7 gh.al (t:=35) (k:=0) (j:=3) (v:=ab h.ar.length (sZ 0).ar.1) (Nat.succ_pos 0) (by kernel_rfl) (by kernel_rfl)) .nil) fun ac S=>?_
  refine ao.one (i:=7) (by kernel_rfl) ?_
  refine id (S.cH 68 (N5 w h.ar (sZ 0).ar (S.rd (Oz gh.al)) s.page (fx.page (d:=s) hs)) fun ac w N EP rS S up rB d54=>?_)
  refine ao.next S up (by kernel_rfl) ?_
  have d55:=J.w d54 gh.sub
  replace gh:=gh.up up
  clear up d54
  refine S.aI 8 [9,8] [] [(69,.v (aM cz.1.b (cz.1.off+0*4)))] .nil fun ac S=>?_
  refine S.aI 9 [9] [] [(70,.v (aM cz.1.b (cz.1.off+0*4+3)))] .nil fun ac S=>?_
  refine ao.one (i:=10) (by kernel_rfl) ?_
  refine id (S.qz (α:=ad) gh (t:=35) (v:=ab (oh h.ar s.page).length EP.1) (k:=0) (j:=3) (off:=cz.1.off+0*4+3) (y:=(⟨h.mem,X,(oh h.buf s.page),(oh h.ar s.page)⟩:ad)) (q:=({(sZ 0) with ar:=EP}:cK)) (Fy:=rS) (by kernel_rfl) (by kernel_rfl) (Nat.succ_pos 0) (by kernel_rfl) (by kernel_rfl) (Nat.le_of_ble_eq_true (by kernel_rfl)) (by kernel_rfl) (fun G ha j6=>⟨_,Li ha rB.own (fun b h ah=>d55 b (j6 b h) ah),fun _ h=>h⟩) d55 rB.sub rB.cU fun w N u7 S up kd d59 akT agY=>?_)
  refine ao.last (by kernel_rfl) ?_
  obtain⟨LO,uC,ae8⟩:∃LO:Nat->cK,ai w0 F _ _ u7 [(⟨h.mem,X,(oh h.buf s.page),(oh h.ar s.page)⟩:ad)] ((cz.1,LO):af ad)/\(LO 0).I.1=(sZ 0).I.1:=⟨_,kd,rfl⟩
  clear up d59 gh kd akT agY
  refine ao.done (by kernel_rfl) ?_ _
  refine S.ex fun S=>?_
  refine S.aP 0 .nil [] fun ac w β S=>?_
  exact uU S SA (show oy _ _ from(ae8.trans (ae6.trans lI))) uC
 refine S.aP 2 .nil [] fun ac w β S=>?_
 exact uU S SA (show oy _ _ from lI) eY
theorem Om (w0:World) (h:ad) (cz:af ad) (F:aw) (ax:GT.own bz F w0 [h] cz) (eb:∀b,F b->b<w0.heap.size) (m:Int) (page:Int) (jh:(0<=m/\m<h.I.length)/\(el h.I m.toNat).tables.length=(el h.I m.toNat).U.length/\(0<=page/\page<=7)/\(el h.I m.toNat).outer.length=8/\(el h.I m.toNat).out.length=8):Calls Tryz.prog 103 [aM cz.1.b (cz.1.off+0*4),R m,R page].toArray w0 (tf oy F cz w0 (packed []) (iA h m page)):=by
 refine Calls.run F Tryz.func103 ?_
 intro ac β S
 have eZ:ai w0 F w0 (ga w0.heap.size) F [h] cz:=⟨ax,eb,fun b hb=> .inr hb⟩
 refine S.go 25 (.cons (g7 eZ.al (t:=34) (k:=0) (j:=1) (v:=ab h.I.length (cz.2 0).I.1) (Nat.succ_pos 0) (by kernel_rfl) (by kernel_rfl)) (.cons (cP (di eZ.al) m Tryz.underlying34) (.cons (dG (di eZ.al) 66 m.toNat 0 (ab (el h.I m.toNat).outer.length ((cz.2 0).I.2 m.toNat).outer.1)) (.cons (cP (bn.outer (d:=(el h.I m.toNat)) (ag.el (di eZ.al) m.toNat (by omega))) page Tryz.underlying66) (.cons (dR (bn.outer (d:=(el h.I m.toNat)) (ag.el (di eZ.al) m.toNat (by omega))) 77 page.toNat) .nil))))) fun ac w β S=>?_
 refine dj ?_
 refine S.df (f:=14) 13 (by kernel_rfl) (by kernel_rfl) fun w S=>?_
 refine S.hm 3 [0,1,2,3,4,5,6,7,8,9,10] [] [(24,.v (ab (el h.I m.toNat).out.length ((cz.2 0).I.2 m.toNat).out.1)),(25,.v (R page)),(29,.v (ab h.mem.length (cz.2 0).mem.1)),(31,.v (R (el (el h.I m.toNat).outer page.toNat).page))] (.cons (dG (di eZ.al) 33 m.toNat 1 (ab (el h.I m.toNat).out.length ((cz.2 0).I.2 m.toNat).out.1)) (.cons (g7 eZ.al (t:=33) (k:=0) (j:=0) (v:=ab h.mem.length (cz.2 0).mem.1) (Nat.succ_pos 0) (by kernel_rfl) (by kernel_rfl)) .nil)) fun ac S=>?_
 refine ao.one (i:=11) (by kernel_rfl) ?_
 refine id (S.cH 32 (Gb w h.mem (cz.2 0).mem (S.rd (Gl eZ.al)) (el (el h.I m.toNat).outer page.toNat).page) fun ac w N ae aX S up au d4=>?_)
 refine ao.next S up (by kernel_rfl) ?_
 have d5:=J.w d4 eZ.sub
 replace eZ:=eZ.up up
 clear up d4
 refine S.aI 12 [12] [] [(33,.v (aM ((cz.2 0).I.2 m.toNat).out.1.b (((cz.2 0).I.2 m.toNat).out.1.off+page.toNat*1)))] (.cons (cP (bn.out (d:=(el h.I m.toNat)) (ag.el (di eZ.al) m.toNat (by omega))) page Tryz.underlying33) .nil) fun ac S=>?_
 refine ao.one (i:=13) (by kernel_rfl) ?_
 obtain⟨b7,ak,wF,xa⟩:=nN eZ (fun _ o=>Pw o (k:=m.toNat) (show m.toNat<h.I.length by omega))
 change ai w0 F _ _ b7 (el h.I m.toNat).out ((cz.2 0).I.2 m.toNat).out at ak
 have afP:=ag.le ak.al
 have arl:=ak.sub
 refine id (S.n4 (α:=List Int) ak (t:=28) (k:=page.toNat) (off:=((cz.2 0).I.2 m.toNat).out.1.off+page.toNat*1) au (J.symm (J.symm (J.part d5 wF))) fun w N fP lp S up aW d15 akI Em=>?_)
 refine ao.last (by kernel_rfl) ?_
 clear d15 ak
 obtain⟨sS,eg,DG⟩:=xa _ _ _ _ _ aX up aW akI d5 List.length_set Em
 obtain⟨pQ,Qm⟩:∃z,z=h.I.set m.toNat {el h.I m.toNat with out:=((el h.I m.toNat).out.set page.toNat (gl h.mem (el (el h.I m.toNat).outer page.toNat).page))}:=⟨_,rfl⟩
 have ll:ai w0 F w N (Or F fP) [(⟨h.mem,pQ,h.buf,h.ar⟩:ad)] ((cz.1,sS):af ad):=by rw [Qm];exact eg
 obtain⟨AO,aaC⟩:=US Qm (show m.toNat<h.I.length by omega) List.length_set
 change (sS 0).I.1=(cz.2 0).I.1 at DG
 clear up aW Em eg
 refine ao.done (by kernel_rfl) ?_ _
 refine S.ex fun S=>?_
 refine S.go 2 .nil fun ac w β S=>?_
 refine dj ?_
 refine S.df (f:=8) 7 (by kernel_rfl) (by kernel_rfl) fun w S=>?_
 refine S.hm 3 [0,1,2,3,4] [] [(37,.v (ab (el pQ m.toNat).outer.length (((sS 0).I.2) m.toNat).outer.1)),(38,.v (R page))] (.cons (dG (gG DG (gY ll.al)) 66 m.toNat 0 (ab (el pQ m.toNat).outer.length (((sS 0).I.2) m.toNat).outer.1)) .nil) fun ac S=>?_
 refine S.jk 5 [] [(39,.v (GT.val (⟨-1,0⟩:aA) ()))] 1 [] (.cons (aY fun w hw=>m5 w) .nil) fun ac w β S=>?_
 refine S.aI 6 [6] [] [(40,.v (aM (((sS 0).I.2) m.toNat).outer.1.b ((((sS 0).I.2) m.toNat).outer.1.off+page.toNat*2)))] (.cons (cP (bn.outer (d:=(el pQ m.toNat)) (ag.el (gG DG (gY ll.al)) m.toNat (by omega))) page Tryz.underlying66) .nil) fun ac S=>?_
 refine ao.one (i:=7) (by kernel_rfl) ?_
 obtain⟨qI,eo,_,NN⟩:=nN ll (fun _ o=>Da o (k:=m.toNat) (show m.toNat<pQ.length by omega))
 change ai w0 F _ _ qI (el pQ m.toNat).outer (((sS 0).I.2) m.toNat).outer at eo
 have SS:=ag.le eo.al
 have wc:=eo.sub
 have anS:fx (el (el pQ m.toNat).outer page.toNat):=(ag.el eo.al page.toNat (by omega))
 refine id (S.BH (α:=aA) eo (t:=77) (k:=page.toNat) (j:=0) (off:=(((sS 0).I.2) m.toNat).outer.1.off+page.toNat*2) (v:=GT.val (⟨-1,0⟩:aA) ()) (y:=(⟨-1,0⟩:aA)) (q:=()) (fun _ _ _=>⟨aa,(show fx ⟨-1,0⟩ from⟨⟨by decide,by decide⟩,⟨by decide,by decide⟩⟩),fun _ h=>False.elim h⟩) fun w N kU e6 S up k4 d37 akN Tn=>?_)
 refine ao.last (by kernel_rfl) ?_
 clear d37 eo
 obtain⟨kO,uA,uc⟩:=NN _ _ _ _ _ aa up k4 akN (fun b _ h=>False.elim h) List.length_set Tn
 obtain⟨FT,Qq⟩:∃z,z=pQ.set m.toNat {el pQ m.toNat with outer:=((el pQ m.toNat).outer.set page.toNat (⟨-1,0⟩:aA))}:=⟨_,rfl⟩
 have pw:ai w0 F w N (Or (Or F fP) kU) [(⟨h.mem,FT,h.buf,h.ar⟩:ad)] ((cz.1,kO):af ad):=by rw [Qq];exact uA
 obtain⟨Ki,anW⟩:=E1 Qq (show m.toNat<pQ.length by omega) List.length_set
 change (kO 0).I.1=(sS 0).I.1 at uc
 clear up k4 Tn uA
 refine ao.done (by kernel_rfl) ?_ _
 refine S.ex fun S=>?_
 refine S.go 6 .nil fun ac w β S=>S.o0 (d:=45) pw (Cy w (⟨h.mem,FT,h.buf,h.ar⟩:ad) ((cz.1,kO):af ad) (Or (Or F fP) kU) (S.hP pw) (fun b hb=>(S.sep b (pw.sub b hb)).1) m page (el (el h.I m.toNat).outer page.toNat) (ag.el (bn.outer (d:=(el h.I m.toNat)) (ag.el (di eZ.al) m.toNat (by omega))) page.toNat (by omega)) (by(first|omega|(dsimp only;omega)))) fun ac w N TW oX S up hr d53 RV=>?_
 change (TW 0).I.1=(kO 0).I.1 at RV
 clear up d53 pw
 obtain⟨Ny,Qy⟩:∃z,z=(oi (⟨h.mem,FT,h.buf,h.ar⟩:ad) m page (el (el h.I m.toNat).outer page.toNat)):=⟨_,rfl⟩
 have kd:ai w0 F w N oX [Ny] ((cz.1,TW):af ad):=by rw [Qy];exact hr
 clear hr
 have SY:=DQ Qy (by first|omega|(dsimp only;omega))
 try dsimp only at SY
 refine S.aP 1 .nil [] fun ac w β S=>?_
 exact uU S (show iA h m page=Ny by clear S;(first|(subst_vars;rfl)|(subst_vars;simp [iA,je,jM,oi,fg, *];done))) (show oy _ _ from(RV.trans (uc.trans DG))) kd
theorem Yw (w0:World) (h:ad) (cz:af ad) (F:aw) (ax:GT.own bz F w0 [h] cz) (eb:∀b,F b->b<w0.heap.size) (jh:dg h=true) (oM:¬0<(eN h).length):Calls Tryz.prog 166 [aM cz.1.b (cz.1.off+0*4)].toArray w0 (tf oy F cz w0 (packed []) (tI h)):=by
 refine Calls.run F Tryz.func166 ?_
 intro ac β S
 have eZ:ai w0 F w0 (ga w0.heap.size) F [h] cz:=⟨ax,eb,fun b hb=> .inr hb⟩
 have DM:=UL (h:=h) (by assumption) (by assumption)
 refine S.go 17 (.cons (hU eZ.al (t:=37) (k:=0) (Nat.succ_pos 0) rfl (by kernel_rfl) (by kernel_rfl)) (.cons (aY fun w hw=>Ob w h (cz.2 0) (cQ (show GT.rd bz _ _ h (cz.2 0) from ag.el eZ.al 0 (Nat.succ_pos 0)) hw) 0) .nil)) fun ac w β S=>S.o0 (d:=14) eZ (Om w h cz F (S.hP eZ) (fun b hb=>(S.sep b (eZ.sub b hb)).1) (eG h 0).1 (eG h 0).2 (by(first|omega|(dsimp only;omega)))) fun ac w N qq aX S up au d5 RU=>?_
 change (qq 0).I.1=(cz.2 0).I.1 at RU
 clear up d5 eZ
 obtain⟨Nz,adW⟩:∃z,z=(iA h (eG h 0).1 (eG h 0).2):=⟨_,rfl⟩
 have bS:ai w0 F w N aX [Nz] ((cz.1,qq):af ad):=by rw [adW];exact au
 clear au
 refine S.aP 1 .nil [] fun ac w β S=>?_
 exact uU S (show tI h=Nz by clear S;(subst_vars;rfl)) (show oy _ _ from RU) bS
theorem J0 {p:Prop} (h:p:=by clear S;(unfold mQ;(repeat' split)<;>first|rfl|(simp;done)|(exfalso;omega)|(exfalso;simp_all;done)|(exfalso;simp_all;omega))):p:=h
theorem Yp (w0:World) (m:List (List Int)) (pm:af (List Int)) (hm:br w0 m pm) (page:Int) (cells:List Int) (sU:af Int) (vQ:br w0 cells sU):Calls Tryz.prog 167 [ab m.length pm.1,R page,ab cells.length sU.1].toArray w0 (dZ aa w0 (mQ m page cells:List (List Int))):=by
 refine Calls.run aa Tryz.func167 ?_
 intro ac β S
 have Aw:m.length<=4194304:=ag.le hm
 have aeH:cells.length<=4194304:=ag.le vQ
 refine S.go 8 .nil fun ac w β S=>S.ct (r:=m) (d:=9) (o3 w m pm (S.rd (S.arg hm))) fun ac w N ae aX S up au d4=>?_
 clear up d4
 refine S.bs 11 (.cons (aY fun w hw=>gJ w page (m.length:Int) (by omega)) .nil) (aS page 0 ((m.length:Int)-1)) (fun ac w β cf S=>?_) (fun ac w β cf S=>?_)
 ·have gn:=cM cf
  refine S.bs 5 (.cons (aY fun w hw=>Gc w cells sU (cQ (S.arg vQ) hw)) .nil) (iR cells) (fun ac w β eH S=>?_) (fun ac w β eH S=>?_)
  ·refine S.go 5 .nil fun ac w β S=>S.ct (r:=cells) (d:=21) (xe w cells sU (S.rd (S.arg vQ))) fun ac w N bE bI S up eR d11=>?_
   have d12:=J.w d11 au.sub
   replace au:=au.up up
   clear up d11
   refine S.go 1 (.cons (cP au.al page Tryz.underlying33) .nil) fun ac w β S=>S.e9 (α:=List Int) au (t:=28) (k:=page.toNat) (off:=ae.1.off+page.toNat*1) eR d12 fun w N e3 lM S up fa d16 uX agM=>?_
   clear up d16 au agM
   have Ef:(m.set page.toNat cells).length=m.length:=List.length_set
   refine S.aP 9 .nil [ab m.length ae.1] fun ac w β S=>?_
   exact cT S J0 (by rw [show m.length=(m.set page.toNat cells).length from(by rw [List.length_set])];rfl) fa
  refine S.aP 10 .nil [ab m.length ae.1] fun ac w β S=>?_
  exact cT S J0 rfl au
 have vz:=dC cf
 refine S.aP 15 .nil [ab m.length ae.1] fun ac w β S=>?_
 exact cT S J0 rfl au
theorem Ol (w0:World) (h:ad) (cz:af ad) (F:aw) (ax:GT.own bz F w0 [h] cz) (eb:∀b,F b->b<w0.heap.size) (m:Int) (page:Int) (jh:eF h m page=true):Calls Tryz.prog 104 [aM cz.1.b (cz.1.off+0*4),R m,R page].toArray w0 (tf oy F cz w0 (packed []) (lb h m page)):=by
 refine Calls.run F Tryz.func104 ?_
 intro ac β S
 have eZ:ai w0 F w0 (ga w0.heap.size) F [h] cz:=⟨ax,eb,fun b hb=> .inr hb⟩
 have a2:=nq (h:=h) (m:=m) (page:=page) (by assumption)
 refine S.go 6 (.cons (hU eZ.al (t:=37) (k:=0) (Nat.succ_pos 0) rfl (by kernel_rfl) (by kernel_rfl)) .nil) fun ac w β S=>S.ct (r:=eN h) (d:=12) (N6 w h (cz.2 0) (S.rd (show GT.rd bz _ _ h (cz.2 0) from ag.el eZ.al 0 (Nat.succ_pos 0)))) fun ac w N ae aX S up au d4=>?_
 replace eZ:=eZ.up up
 clear up d4
 refine S.go 4 .nil fun ac w β S=>?_
 refine m6 S (fun ac w=>∃(cY:ad) (e7:Nat->cK) (ir:aw) (u:_) (N:_) (β:_),(cY=iS h)/\(e7 0).I.1=(cz.2 0).I.1/\aj Tryz.prog Tryz.f104.ntmps w0 F u N β ⟨[(0,.v (aM cz.1.b (cz.1.off+0*4))),(1,.v (R m)),(2,.v (R page))],[]⟩ ac w/\ai w0 F u N ir ([cY]) ((cz.1,e7):af ad)) ?_ ?_
 ·clear S;intro S
  refine S.a8 0 .nil (((eN h).length:Int)==0) (fun ac w β dq fM S=>?_) (fun ac w β dq fM S=>?_)
  ·refine S.go 3 .nil fun ac w β S=>S.o0 (d:=16) eZ (Yw w h cz F (S.hP eZ) (fun b hb=>(S.sep b (eZ.sub b hb)).1) (by(first|assumption|exact rl (by assumption)|omega|(dsimp only;omega))) (by(first|assumption|exact rl (by assumption)|omega|(dsimp only;omega)))) fun ac w N Ls fP S up cJ d16 RS=>?_
   change (Ls 0).I.1=(cz.2 0).I.1 at RS
   clear up d16 eZ
   obtain⟨Nx,Qv⟩:∃z,z=(tI h):=⟨_,rfl⟩
   have eg:ai w0 F w N fP [Nx] ((cz.1,Ls):af ad):=by rw [Qv];exact cJ
   clear cJ
   have Eg:=ak0 Qv (rl (by assumption)) (by omega) m.toNat
   try dsimp only at Eg
   exact S.e5 1 .nil fun ac w β S=>⟨rfl,Nx,Ls,fP,_,_,_,(by clear S;first|exact UB (by assumption) (by omega)|exact UA (by omega)),RS,S.z,eg⟩
  exact S.e5 2 .nil fun ac w β S=>⟨rfl,h,cz.2,F,_,_,_,(by clear S;first|exact UB (by assumption) (by omega)|exact UA (by omega)),rfl,S.z,eZ⟩
 clear S eZ au
 rintro ac w ⟨cY,e7,ir,u,N,β,xY,afa,S,bS⟩
 have bo:=akz xY (by assumption)
 refine S.ex fun S=>?_
 refine S.go 17 (.cons (g7 bS.al (t:=34) (k:=0) (j:=1) (v:=ab cY.I.length (e7 0).I.1) (Nat.succ_pos 0) (by kernel_rfl) (by kernel_rfl)) (.cons (cP (di bS.al) m Tryz.underlying34) (.cons (hU bS.al (t:=37) (k:=0) (Nat.succ_pos 0) rfl (by kernel_rfl) (by kernel_rfl)) .nil))) fun ac w β S=>S.ct (r:=eN cY) (d:=26) (N6 w cY (e7 0) (S.rd (show GT.rd bz _ _ cY (e7 0) from ag.el bS.al 0 (Nat.succ_pos 0)))) fun ac w N jO hR S up bY d24=>?_
 replace bS:=bS.up up
 clear up d24
 have i26:aq (el (eN cY) 0):=(ag.el bY.al 0 (by omega))
 refine S.go 6 (.cons (cA bY.al 0 Tryz.underlying28) (.cons (cn bY.al 3 0) .nil)) fun ac w β S=>?_
 refine dj ?_
 refine S.df (f:=17) 16 (by kernel_rfl) (by kernel_rfl) fun w S=>?_
 refine S.hm 4 [0,1,2,3,4,5,6,7,8,9,10,11,12] [] [(29,.v (aM cz.1.b (cz.1.off+0*4))),(33,.v (ab cY.mem.length (e7 0).mem.1)),(34,.v (R (el (eN cY) 0))),(41,.v (ab (el (el cY.I m.toNat).out page.toNat).length (((e7 0).I.2 m.toNat).out.2 page.toNat).1))] (.cons (g7 bS.al (t:=33) (k:=0) (j:=0) (v:=ab cY.mem.length (e7 0).mem.1) (Nat.succ_pos 0) (by kernel_rfl) (by kernel_rfl)) (.cons (dG (di bS.al) 33 m.toNat 1 (ab (el cY.I m.toNat).out.length ((e7 0).I.2 m.toNat).out.1)) (.cons (cP (bn.out (d:=(el cY.I m.toNat)) (ag.el (di bS.al) m.toNat (by omega))) page Tryz.underlying33) (.cons (cn (bn.out (d:=(el cY.I m.toNat)) (ag.el (di bS.al) m.toNat (by omega))) 28 page.toNat) .nil)))) fun ac S=>?_
 refine ao.one (i:=13) (by kernel_rfl) ?_
 refine id (S.cH 42 (Yp w cY.mem (e7 0).mem (S.rd (Gl bS.al)) (el (eN cY) 0) (el (el cY.I m.toNat).out page.toNat) (((e7 0).I.2 m.toNat).out.2 page.toNat) (S.rd (ag.el (bn.out (d:=(el cY.I m.toNat)) (ag.el (di bS.al) m.toNat (by omega))) page.toNat (by omega)))) fun ac w N g2 gW S up hq d30=>?_)
 refine ao.next S up (by kernel_rfl) ?_
 have d31:=J.w d30 bS.sub
 replace bS:=bS.up up
 clear up d30
 refine S.aI 14 [15,14] [] [(43,.v (aM cz.1.b (cz.1.off+0*4)))] .nil fun ac S=>?_
 refine S.aI 15 [15] [] [(44,.v (aM cz.1.b (cz.1.off+0*4)))] .nil fun ac S=>?_
 refine ao.one (i:=16) (by kernel_rfl) ?_
 refine id (S.qz (α:=ad) bS (t:=33) (v:=ab (mQ cY.mem (el (eN cY) 0) (el (el cY.I m.toNat).out page.toNat)).length g2.1) (k:=0) (j:=0) (off:=cz.1.off+0*4) (y:=(⟨(mQ cY.mem (el (eN cY) 0) (el (el cY.I m.toNat).out page.toNat)),cY.I,cY.buf,cY.ar⟩:ad)) (q:=({(e7 0) with mem:=g2}:cK)) (Fy:=gW) (by kernel_rfl) (by kernel_rfl) (Nat.succ_pos 0) (by kernel_rfl) (by kernel_rfl) (Nat.le_of_ble_eq_true (by kernel_rfl)) (by kernel_rfl) (fun G ha j6=>⟨_,TJ ha hq.own (fun b h ah=>d31 b (j6 b h) ah),fun _ h=>h⟩) d31 hq.sub hq.cU fun w N u5 S up eV d35 akM agP=>?_)
 refine ao.last (by kernel_rfl) ?_
 obtain⟨fc,gT,sx⟩:∃fc:Nat->cK,ai w0 F _ _ u5 [(⟨(mQ cY.mem (el (eN cY) 0) (el (el cY.I m.toNat).out page.toNat)),cY.I,cY.buf,cY.ar⟩:ad)] ((cz.1,fc):af ad)/\(fc 0).I.1=(e7 0).I.1:=⟨_,eV,rfl⟩
 clear up d35 bS eV akM agP
 refine ao.done (by kernel_rfl) ?_ _
 refine S.ex fun S=>?_
 refine S.go 8 (.cons (dG (gG sx (gY gT.al)) 33 m.toNat 1 (ab (el cY.I m.toNat).out.length (((fc 0).I.2) m.toNat).out.1)) .nil) fun ac w β S=>S.gx (α:=Int) (d:=50) fun ac w N Uf oW S up kc d43=>?_
 have d44:=J.w d43 gT.sub
 replace gT:=gT.up up
 clear up d43
 obtain⟨wX,jz,L4,W6⟩:=nN gT (fun _ o=>Pw o (k:=m.toNat) (show m.toNat<cY.I.length by omega))
 change ai w0 F _ _ wX (el cY.I m.toNat).out (((fc 0).I.2) m.toNat).out at jz
 have af0:=ag.le jz.al
 have arq:=jz.sub
 refine S.go 1 (.cons (cP (bn.out (d:=(el cY.I m.toNat)) (ag.el (gG sx (gY gT.al)) m.toNat (by omega))) page Tryz.underlying33) .nil) fun ac w β S=>S.e9 (α:=List Int) jz (t:=28) (k:=page.toNat) (off:=(((fc 0).I.2) m.toNat).out.1.off+page.toNat*1) kc (J.symm (J.symm (J.part d44 L4))) fun w N rS oQ S up hr d54 qy AY=>?_
 clear d54 jz
 obtain⟨pE,iF,qk⟩:=W6 _ _ _ _ _ oW up hr qy d44 List.length_set AY
 obtain⟨kW,Ae⟩:∃z,z=cY.I.set m.toNat {el cY.I m.toNat with out:=((el cY.I m.toNat).out.set page.toNat ([]:List Int))}:=⟨_,rfl⟩
 have dQ:ai w0 F w N (Or u5 rS) [(⟨(mQ cY.mem (el (eN cY) 0) (el (el cY.I m.toNat).out page.toNat)),kW,cY.buf,cY.ar⟩:ad)] ((cz.1,pE):af ad):=by rw [Ae];exact iF
 obtain⟨af5,aaE⟩:=US Ae (show m.toNat<cY.I.length by omega) List.length_set
 change (pE 0).I.1=(fc 0).I.1 at qk
 clear up hr AY iF
 obtain⟨B4,qn,_,W8⟩:=nN dQ (fun _ o=>Da o (k:=m.toNat) (show m.toNat<kW.length by omega))
 change ai w0 F _ _ B4 (el kW m.toNat).outer (((pE 0).I.2) m.toNat).outer at qn
 have Kk:=ag.le qn.al
 have Ts:=qn.sub
 have anZ:fx (el (el kW m.toNat).outer page.toNat):=(ag.el qn.al page.toNat (by omega))
 refine S.go 25 (.cons (dG (gG (qk.trans sx) (gY dQ.al)) 66 m.toNat 0 (ab (el kW m.toNat).outer.length (((pE 0).I.2) m.toNat).outer.1)) (.cons (cP (bn.outer (d:=(el kW m.toNat)) (ag.el (gG (qk.trans sx) (gY dQ.al)) m.toNat (by omega))) page Tryz.underlying66) (.cons (dR (bn.outer (d:=(el kW m.toNat)) (ag.el (gG (qk.trans sx) (gY dQ.al)) m.toNat (by omega))) 77 page.toNat) (.cons (dG (gG (qk.trans sx) (gY dQ.al)) 66 m.toNat 0 (ab (el kW m.toNat).outer.length (((pE 0).I.2) m.toNat).outer.1)) (.cons (dY (s:=Instr.build 77 [(0,R (el (eN cY) 0)),(1,R 3)].toArray) (v:= .agg [R (el (eN cY) 0),R 3].toArray) (fun w=>by kernel_rfl)) (.cons (cP (bn.outer (d:=(el kW m.toNat)) (ag.el (gG (qk.trans sx) (gY dQ.al)) m.toNat (by omega))) page Tryz.underlying66) .nil)))))) fun ac w β S=>S.kV (α:=aA) qn (t:=77) (k:=page.toNat) (j:=0) (off:=(((pE 0).I.2) m.toNat).outer.1.off+page.toNat*2) (v:=GT.val (⟨(el (eN cY) 0),3⟩:aA) ()) (y:=(⟨(el (eN cY) 0),3⟩:aA)) (q:=()) (fun _ _ _=>⟨aa,(show fx (⟨(el (eN cY) 0),3⟩:aA) from⟨i26,(show aq 3 from⟨by decide,by decide⟩)⟩),fun _ h=>False.elim h⟩) fun w N B6 ER S up pB d76 akV KL=>?_
 clear d76 qn
 obtain⟨ED,Ew,RX⟩:=W8 _ _ _ _ _ aa up pB akV (fun b _ h=>False.elim h) List.length_set KL
 obtain⟨FV,Qs⟩:∃z,z=kW.set m.toNat {el kW m.toNat with outer:=((el kW m.toNat).outer.set page.toNat (⟨(el (eN cY) 0),3⟩:aA))}:=⟨_,rfl⟩
 have uF:ai w0 F w N (Or (Or u5 rS) B6) [(⟨(mQ cY.mem (el (eN cY) 0) (el (el cY.I m.toNat).out page.toNat)),FV,cY.buf,cY.ar⟩:ad)] ((cz.1,ED):af ad):=by rw [Qs];exact Ew
 obtain⟨ari,an0⟩:=E1 Qs (show m.toNat<kW.length by omega) List.length_set
 change (ED 0).I.1=(pE 0).I.1 at RX
 clear up pB KL Ew
 refine S.go 7 .nil fun ac w β S=>S.o0 (d:=71) uF (Cy w (⟨(mQ cY.mem (el (eN cY) 0) (el (el cY.I m.toNat).out page.toNat)),FV,cY.buf,cY.ar⟩:ad) ((cz.1,ED):af ad) (Or (Or u5 rS) B6) (S.hP uF) (fun b hb=>(S.sep b (uF.sub b hb)).1) m page (el (el kW m.toNat).outer page.toNat) (ag.el (bn.outer (d:=(el kW m.toNat)) (ag.el (gG (qk.trans sx) (gY dQ.al)) m.toNat (by omega))) page.toNat (by omega)) (by(first|omega|(dsimp only;omega)))) fun ac w N T0 Ni S up Ex d92 RY=>?_
 change (T0 0).I.1=(ED 0).I.1 at RY
 clear up d92 uF
 obtain⟨NA,QA⟩:∃z,z=(oi (⟨(mQ cY.mem (el (eN cY) 0) (el (el cY.I m.toNat).out page.toNat)),FV,cY.buf,cY.ar⟩:ad) m page (el (el kW m.toNat).outer page.toNat)):=⟨_,rfl⟩
 have uH:ai w0 F w N Ni [NA] ((cz.1,T0):af ad):=by rw [QA];exact Ex
 clear Ex
 have af_:=DQ QA (by first|omega|(dsimp only;omega))
 try dsimp only at af_
 refine S.aP 1 .nil [] fun ac w β S=>?_
 exact uU S (show lb h m page=NA by clear S;(unfold lb;first|(subst_vars;rfl)|(subst_vars;simp [om,je,jM,oi,fg, *];done))) (show oy _ _ from(RY.trans (RX.trans (qk.trans (sx.trans afa))))) uH
theorem J2 {p:Prop} (h:p:=by clear S;(first|(rw [agB (by assumption) xY.symm (by assumption)];done)|(rw [agD (by assumption) xY.symm (by assumption) (by assumption) (by assumption)];done)|(exact agA (by assumption) xY.symm (by assumption) (by assumption) (by assumption) (by assumption) rfl (by assumption)))):p:=h
theorem Gh (w0:World) (h:ad) (cz:af ad) (F:aw) (ax:GT.own bz F w0 [h] cz) (eb:∀b,F b->b<w0.heap.size) (m:Int) (page:Int) (need:Int) (jh:eF h m page=true):Calls Tryz.prog 95 [aM cz.1.b (cz.1.off+0*4),R m,R page,R need].toArray w0 (tf oy F cz w0 (packed []) (gA h m page need)):=by
 refine Calls.run F Tryz.func95 ?_
 intro ac β S
 have eZ:ai w0 F w0 (ga w0.heap.size) F [h] cz:=⟨ax,eb,fun b hb=> .inr hb⟩
 have a2:=nq (h:=h) (m:=m) (page:=page) (by assumption)
 refine S.go 18 (.cons (g7 eZ.al (t:=34) (k:=0) (j:=1) (v:=ab h.I.length (cz.2 0).I.1) (Nat.succ_pos 0) (by kernel_rfl) (by kernel_rfl)) (.cons (cP (di eZ.al) m Tryz.underlying34) (.cons (dG (di eZ.al) 66 m.toNat 0 (ab (el h.I m.toNat).outer.length ((cz.2 0).I.2 m.toNat).outer.1)) (.cons (cP (bn.outer (d:=(el h.I m.toNat)) (ag.el (di eZ.al) m.toNat (by omega))) page Tryz.underlying66) (.cons (dG (bn.outer (d:=(el h.I m.toNat)) (ag.el (di eZ.al) m.toNat (by omega))) 3 page.toNat 0 (R (el (el h.I m.toNat).outer page.toNat).page)) .nil))))) fun ac w β S=>?_
 refine m6 S (fun ac w=>∃(cY:ad) (eP:Nat->cK) (cR:aw) (u:_) (N:_) (β:_),(cY=hZ h m page)/\(eP 0).I.1=(cz.2 0).I.1/\aj Tryz.prog Tryz.f95.ntmps w0 F u N β ⟨[(0,.v (aM cz.1.b (cz.1.off+0*4))),(1,.v (R m)),(2,.v (R page)),(3,.v (R need))],[]⟩ ac w/\ai w0 F u N cR ([cY]) ((cz.1,eP):af ad)) ?_ ?_
 ·clear S;intro S
  refine S.a8 0 .nil ((el (el h.I m.toNat).outer page.toNat).page==(-1)) (fun ac w β dU tS S=>?_) (fun ac w β dU tS S=>?_)
  ·refine S.go 5 .nil fun ac w β S=>S.o0 (d:=26) eZ (Ol w h cz F (S.hP eZ) (fun b hb=>(S.sep b (eZ.sub b hb)).1) m page (by(first|assumption|exact rl (by assumption)|omega|(dsimp only;omega)))) fun ac w N EE bI S up eR d12 RR=>?_
   change (EE 0).I.1=(cz.2 0).I.1 at RR
   clear up d12 eZ
   obtain⟨Nw,Qu⟩:∃z,z=(lb h m page):=⟨_,rfl⟩
   have aT:ai w0 F w N bI [Nw] ((cz.1,EE):af ad):=by rw [Qu];exact eR
   clear eR
   have Kd:=G_ Qu (by assumption)
   try dsimp only at Kd
   exact S.e5 1 .nil fun ac w β S=>⟨rfl,Nw,EE,bI,_,_,_,(by clear S;first|exact(Tg (by assumption) (by assumption)).symm|exact(Tf (by assumption)).symm|exact El (by assumption) (of_decide_eq_true (by assumption))|exact(Ek (by assumption) (of_decide_eq_false (by assumption))).symm|exact El (by assumption) (by assumption)|exact(Ek (by assumption) (by assumption)).symm),RR,S.z,aT⟩
  exact S.e5 2 .nil fun ac w β S=>⟨rfl,h,cz.2,F,_,_,_,(by clear S;first|exact(Tg (by assumption) (by assumption)).symm|exact(Tf (by assumption)).symm|exact El (by assumption) (of_decide_eq_true (by assumption))|exact(Ek (by assumption) (of_decide_eq_false (by assumption))).symm|exact El (by assumption) (by assumption)|exact(Ek (by assumption) (by assumption)).symm),rfl,S.z,eZ⟩
 clear S eZ
 rintro ac w ⟨cY,eP,cR,u,N,β,xY,lI,S,eY⟩
 have bo:=KD xY (by assumption)
 refine S.ex fun S=>?_
 refine S.bs 9 (.cons (aY fun w hw=>tm w need 2) .nil) (!(eB need 2)) (fun ac w β j7 S=>?_) (fun ac w β j7 S=>?_)
 ·have h2:=cw j7
  refine S.aP 2 .nil [] fun ac w β S=>?_
  exact uU S J2 (show oy _ _ from lI) eY
 have mR:=cl j7
 have vz:=tB mR
 obtain⟨u4,ll,_,W2⟩:=nN eY (fun _ o=>zT o (k:=m.toNat) (show m.toNat<cY.I.length by omega))
 change ai w0 F _ _ u4 (el cY.I m.toNat).bj ((eP 0).I.2 m.toNat).bj at ll
 have AO:=ag.le ll.al
 have KK:=ll.sub
 refine S.go 22 (.cons (g7 eY.al (t:=34) (k:=0) (j:=1) (v:=ab cY.I.length (eP 0).I.1) (Nat.succ_pos 0) (by kernel_rfl) (by kernel_rfl)) (.cons (cP (di eY.al) m Tryz.underlying34) (.cons (dG (di eY.al) 67 m.toNat 2 (ab (el cY.I m.toNat).bj.length ((eP 0).I.2 m.toNat).bj.1)) (.cons (cP (bn.bj (d:=(el cY.I m.toNat)) (ag.el (di eY.al) m.toNat (by omega))) page Tryz.underlying67) .nil)))) fun ac w β S=>S.kV (α:=Bool) ll (t:=4) (k:=page.toNat) (j:=0) (off:=((eP 0).I.2 m.toNat).bj.1.off+page.toNat*1) (v:=B true) (y:=true) (q:=()) (fun _ _ _=>⟨aa,trivial,fun _ h=>False.elim h⟩) fun w N gW jE S up cN d30 L3 wc=>?_
 clear d30 ll
 obtain⟨wv,k4,sw⟩:=W2 _ _ _ _ _ aa up cN L3 (fun b _ h=>False.elim h) List.length_set wc
 obtain⟨kl,Qp⟩:∃z,z=cY.I.set m.toNat {el cY.I m.toNat with bj:=((el cY.I m.toNat).bj.set page.toNat true)}:=⟨_,rfl⟩
 have eO:ai w0 F w N (Or cR gW) [(⟨cY.mem,kl,cY.buf,cY.ar⟩:ad)] ((cz.1,wv):af ad):=by rw [Qp];exact k4
 obtain⟨aq3,anV⟩:=BL Qp (show m.toNat<cY.I.length by omega) List.length_set
 change (wv 0).I.1=(eP 0).I.1 at sw
 clear up cN wc k4
 refine S.bs 23 (.cons (dG (gG sw (gY eO.al)) 66 m.toNat 0 (ab (el kl m.toNat).outer.length (((wv 0).I.2) m.toNat).outer.1)) (.cons (cP (bn.outer (d:=(el kl m.toNat)) (ag.el (gG sw (gY eO.al)) m.toNat (by omega))) page Tryz.underlying66) (.cons (dR (bn.outer (d:=(el kl m.toNat)) (ag.el (gG sw (gY eO.al)) m.toNat (by omega))) 77 page.toNat) (.cons (aY fun w hw=>tm w (el (el kl m.toNat).outer page.toNat).bW 2) .nil)))) (!(eB (el (el kl m.toNat).outer page.toNat).bW 2)) (fun ac w β qa S=>?_) (fun ac w β qa S=>?_)
 ·have rh:=cw qa
  obtain⟨lW,fu,_,NO⟩:=nN eO (fun _ o=>Da o (k:=m.toNat) (show m.toNat<kl.length by omega))
  change ai w0 F _ _ lW (el kl m.toNat).outer (((wv 0).I.2) m.toNat).outer at fu
  have SX:=ag.le fu.al
  have arp:=fu.sub
  have aaD:fx (el (el kl m.toNat).outer page.toNat):=(ag.el fu.al page.toNat (by omega))
  refine S.go 10 (.cons (dG (gG sw (gY eO.al)) 66 m.toNat 0 (ab (el kl m.toNat).outer.length (((wv 0).I.2) m.toNat).outer.1)) (.cons (cP (bn.outer (d:=(el kl m.toNat)) (ag.el (gG sw (gY eO.al)) m.toNat (by omega))) page Tryz.underlying66) .nil)) fun ac w β S=>S.kV (α:=aA) fu (t:=3) (k:=page.toNat) (j:=1) (off:=(((wv 0).I.2) m.toNat).outer.1.off+page.toNat*2+1) (v:=R 3) (y:=(⟨(el (el kl m.toNat).outer page.toNat).page,3⟩:aA)) (q:=()) (fun _ _ _=>⟨aa,(show fx (⟨(el (el kl m.toNat).outer page.toNat).page,3⟩:aA) from⟨(fx.page (d:=(el (el kl m.toNat).outer page.toNat)) aaD),(show aq 3 from⟨by decide,by decide⟩)⟩),fun _ h=>False.elim h⟩) fun w N rS oQ S up hr d54 qy AY=>?_
  clear d54 fu
  obtain⟨pE,iF,qk⟩:=NO _ _ _ _ _ aa up hr qy (fun b _ h=>False.elim h) List.length_set AY
  obtain⟨kW,Ae⟩:∃z,z=kl.set m.toNat {el kl m.toNat with outer:=((el kl m.toNat).outer.set page.toNat (⟨(el (el kl m.toNat).outer page.toNat).page,3⟩:aA))}:=⟨_,rfl⟩
  have dQ:ai w0 F w N (Or (Or cR gW) rS) [(⟨cY.mem,kW,cY.buf,cY.ar⟩:ad)] ((cz.1,pE):af ad):=by rw [Ae];exact iF
  obtain⟨af5,aaE⟩:=E1 Ae (show m.toNat<kl.length by omega) List.length_set
  change (pE 0).I.1=(wv 0).I.1 at qk
  clear up hr AY iF
  refine S.go 7 .nil fun ac w β S=>S.o0 (d:=64) dQ (Cy w (⟨cY.mem,kW,cY.buf,cY.ar⟩:ad) ((cz.1,pE):af ad) (Or (Or cR gW) rS) (S.hP dQ) (fun b hb=>(S.sep b (dQ.sub b hb)).1) m page (el (el kl m.toNat).outer page.toNat) (ag.el (bn.outer (d:=(el kl m.toNat)) (ag.el (gG sw (gY eO.al)) m.toNat (by omega))) page.toNat (by omega)) (by(first|omega|(dsimp only;omega)))) fun ac w N TY ob S up nX d70 RW=>?_
  change (TY 0).I.1=(pE 0).I.1 at RW
  clear up d70 dQ
  obtain⟨WL,Qz⟩:∃z,z=(oi (⟨cY.mem,kW,cY.buf,cY.ar⟩:ad) m page (el (el kl m.toNat).outer page.toNat)):=⟨_,rfl⟩
  have pB:ai w0 F w N ob [WL] ((cz.1,TY):af ad):=by rw [Qz];exact nX
  clear nX
  have af7:=DQ Qz (by first|omega|(dsimp only;omega))
  try dsimp only at af7
  refine S.aP 1 .nil [] fun ac w β S=>?_
  exact uU S J2 (show oy _ _ from(RW.trans (qk.trans (sw.trans lI)))) pB
 have acV:=cl qa
 have aoE:=tB acV
 refine S.aP 2 .nil [] fun ac w β S=>?_
 exact uU S J2 (show oy _ _ from(sw.trans lI)) eO
theorem JS {p:Prop} (h:p:=by clear S;(unfold mE;(repeat' split)<;>first|rfl|(exfalso;omega)|(exfalso;simp_all;done)|(exfalso;simp_all;omega)|(simp_all;done))):p:=h
theorem Xz (w0:World) (a:Int) (b:Int):Calls Tryz.prog 210 [R a,R b].toArray w0 (fun e w'=>e= .returned (R (mE a b))/\bX aa w0 w'):=by
 refine Calls.run aa Tryz.func210 ?_
 intro ac β S
 refine S.bs 12 (.cons (aY fun w hw=>Cu w a) .nil) (!(aS a 0 3)) (fun ac w β h1 S=>?_) (fun ac w β h1 S=>?_)
 ·have ah:=cw h1
  have c3:=dC ah
  exact S.bb 13 .nil [R 0] (g3 JS)
 have b2:=cl h1
 have gb:=cM b2
 refine S.bs 6 (.cons (aY fun w hw=>Cu w b) .nil) (!(aS b 0 3)) (fun ac w β dU S=>?_) (fun ac w β dU S=>?_)
 ·have eH:=cw dU
  have nP:=dC eH
  exact S.bb 7 .nil [R 0] (g3 JS)
 have gd:=cl dU
 have p9:=cM gd
 exact S.bb 12 (.cons (te (x:=a) (y:=b)) .nil) [R (mg a b)] (g3 JS)
theorem DT {p:Prop} (h:p:=by clear S;(unfold iw;(repeat' split)<;>first|rfl|(exfalso;omega)|(exfalso;simp_all;done)|(exfalso;simp_all;omega)|(simp_all;done))):p:=h
theorem XC (w0:World) (inner:aA) (outer:List aA) (sV:af aA) (ye:br w0 outer sV):Calls Tryz.prog 205 [GT.val inner (),ab outer.length sV.1].toArray w0 (fun e w'=>e= .returned (GT.val (iw inner outer) ())/\bX aa w0 w'):=by
 refine Calls.run aa Tryz.func205 ?_
 intro ac β S
 have aeJ:outer.length<=4194304:=ag.le ye
 refine S.a8 33 (.cons (aY fun w hw=>Cw w outer sV (cQ (S.arg ye) hw) inner.page) (.cons (aY fun w hw=>Xz w inner.bW (dw outer inner.page).bW) .nil)) (inner.page==(-1)) (fun ac w β h1 bM S=>?_) (fun ac w β h1 bM S=>?_)
 ·exact S.bb 18 (.cons (aY fun w hw=>m5 w) .nil) [GT.val (⟨-1,0⟩:aA) ()] (mq (p:=()) DT)
 refine S.a8 5 .nil ((dw outer inner.page).page==(-1)) (fun ac w β aE ej S=>?_) (fun ac w β aE ej S=>?_)
 ·exact S.bb 13 (.cons (aY fun w hw=>m5 w) .nil) [GT.val (⟨-1,0⟩:aA) ()] (mq (p:=()) DT)
 refine S.a8 5 .nil ((mE inner.bW (dw outer inner.page).bW)==0) (fun ac w β cf gn S=>?_) (fun ac w β cf gn S=>?_)
 ·exact S.bb 8 (.cons (aY fun w hw=>m5 w) .nil) [GT.val (⟨-1,0⟩:aA) ()] (mq (p:=()) DT)
 exact S.bb 13 (.cons (dY (s:=Instr.build 77 [(0,R (dw outer inner.page).page),(1,R (mE inner.bW (dw outer inner.page).bW))].toArray) (v:= .agg [R (dw outer inner.page).page,R (mE inner.bW (dw outer inner.page).bW)].toArray) (fun w=>by kernel_rfl)) .nil) [GT.val (⟨(dw outer inner.page).page,(mE inner.bW (dw outer inner.page).bW)⟩:aA) ()] (mq (p:=()) DT)
theorem DU {p:Prop} (h:p:=by clear S;(unfold q3;(repeat' split)<;>first|rfl|(exfalso;omega)|(exfalso;simp_all;done)|(exfalso;simp_all;omega)|(simp_all;done))):p:=h
theorem N3 (w0:World) (k:bO) (fH:hI) (hk:br w0 k fH) (inner:List aA) (qs:af aA) (so:br w0 inner qs) (outer:List aA) (sV:af aA) (ye:br w0 outer sV) (page:Int):Calls Tryz.prog 185 [GT.val k fH,ab inner.length qs.1,ab outer.length sV.1,R page].toArray w0 (dZ aa w0 (q3 k inner outer page:bO)):=by
 refine Calls.run aa Tryz.func185 ?_
 intro ac β S
 have x_:k.known.length<=4194304:=ag.le (hV.known (d:=k) hk)
 have ya:k.bN.length<=4194304:=ag.le (hV.bN (d:=k) hk)
 have Rs:inner.length<=4194304:=ag.le so
 have aeJ:outer.length<=4194304:=ag.le ye
 refine S.go 9 .nil fun ac w β S=>S.ct (r:=k) (d:=11) (zv w k fH (S.rd (S.arg hk))) fun ac w N ae aX S up au d4=>?_
 clear up d4
 obtain⟨de,eE,a1,a6,_,_,d11⟩:=yV au
 refine S.bs 13 (.cons (aY fun w hw=>gJ w page (k.known.length:Int) (by omega)) .nil) (aS page 0 ((k.known.length:Int)-1)) (fun ac w β eU S=>?_) (fun ac w β eU S=>?_)
 ·have l9:=cM eU
  refine S.bs 7 (.cons (aY fun w hw=>gJ w page (k.bN.length:Int) (by omega)) .nil) (aS page 0 ((k.bN.length:Int)-1)) (fun ac w β ju S=>?_) (fun ac w β ju S=>?_)
  ·have se:=cM ju
   refine S.bs 7 (.cons (aY fun w hw=>gJ w page (inner.length:Int) (by omega)) .nil) (aS page 0 ((inner.length:Int)-1)) (fun ac w β lf S=>?_) (fun ac w β lf S=>?_)
   ·have o8:=cM lf
    refine S.go 7 (.cons (cP a1.al page Tryz.underlying67) .nil) fun ac w β S=>S.kV (α:=Bool) a1 (t:=4) (k:=page.toNat) (j:=0) (off:=ae.known.1.off+page.toNat*1) (v:=B true) (y:=true) (q:=()) (fun _ _ _=>⟨aa,trivial,fun _ h=>False.elim h⟩) fun w N kT sX S up gR d21 UG AV=>?_
    have d24:=d21 _ (J.symm d11) (fun b _ h=>False.elim h) a6.sub
    replace a6:=a6.bp (J.symm d11) up
    clear up d21 a1 AV
    have AO:(k.known.set page.toNat true).length=k.known.length:=List.length_set
    replace S:=S.z (σ':=⟨[(1,.v (ab inner.length qs.1)),(2,.v (ab outer.length sV.1)),(3,.v (R page)),(8,.p 1 0),(9,.p 2 0),(33,.v (aM ae.known.1.b (ae.known.1.off+page.toNat*1)))],[GT.cells k fH,c2 bO,[ab (k.known.set page.toNat true).length ae.known.1,ab k.bN.length ae.bN.1]]⟩) (by rw [show(k.known.set page.toNat true).length=k.known.length by omega]<;>kernel_rfl)
    refine S.is fun S=>?_
    refine S.go 2 .nil fun ac w β S=>?_
    refine dj ?_
    refine S.df (f:=11) 10 (by kernel_rfl) (by kernel_rfl) fun w S=>?_
    refine S.hm 3 [0,1,2,3,4,5,6,7] [] [(35,.v (ab k.bN.length ae.bN.1)),(36,.v (R page)),(40,.v (GT.val (el inner page.toNat) ())),(41,.v (ab outer.length sV.1))] (.cons (cP (S.arg so) page Tryz.underlying66) (.cons (dR (S.arg so) 77 page.toNat) .nil)) fun ac S=>?_
    refine S.jk 8 [] [(42,.v (GT.val (iw (el inner page.toNat) outer) ()))] 3 [] (.cons (aY fun w hw=>XC w (el inner page.toNat) outer sV (cQ (S.arg ye) hw)) .nil) fun ac w β S=>?_
    refine S.aI 9 [9] [] [(43,.v (aM ae.bN.1.b (ae.bN.1.off+page.toNat*2)))] (.cons (cP a6.al page Tryz.underlying66) .nil) fun ac S=>?_
    refine ao.one (i:=10) (by kernel_rfl) ?_
    have aaC:fx (el k.bN page.toNat):=(ag.el a6.al page.toNat (by omega))
    refine id (S.BH (α:=aA) a6 (t:=77) (k:=page.toNat) (j:=0) (off:=ae.bN.1.off+page.toNat*2) (v:=GT.val (iw (el inner page.toNat) outer) ()) (y:=(iw (el inner page.toNat) outer)) (q:=()) (fun _ _ _=>⟨aa,(Zo (S.arg ye) (el inner page.toNat)),fun _ h=>False.elim h⟩) fun w N gW jE S up cN d30 L3 wc=>?_)
    refine ao.last (by kernel_rfl) ?_
    have d33:=d30 _ (J.symm d24) (fun b _ h=>False.elim h) gR.sub
    replace gR:=gR.bp (J.symm d24) up
    clear up d30 a6 wc
    have SU:(k.bN.set page.toNat (iw (el inner page.toNat) outer)).length=k.bN.length:=List.length_set
    replace S:=S.z (σ':=⟨[(8,.p 1 0),(9,.p 2 0),(42,.v (GT.val (iw (el inner page.toNat) outer) ())),(43,.v (aM ae.bN.1.b (ae.bN.1.off+page.toNat*2)))],[GT.cells k fH,c2 bO,[ab (k.known.set page.toNat true).length ae.known.1,ab (k.bN.set page.toNat (iw (el inner page.toNat) outer)).length ae.bN.1]]⟩) (by rw [show(k.bN.set page.toNat (iw (el inner page.toNat) outer)).length=k.bN.length by omega]<;>kernel_rfl)
    refine ao.done (by kernel_rfl) ?_ _
    refine S.ex fun S=>?_
    refine S.aP 8 .nil [GT.val (⟨(k.known.set page.toNat true),(k.bN.set page.toNat (iw (el inner page.toNat) outer))⟩:bO) (⟨(ae.known.1,sX),(ae.bN.1,jE)⟩:hI)] fun ac w β S=>?_
    have jy:=pD (x:=(⟨(k.known.set page.toNat true),(k.bN.set page.toNat (iw (el inner page.toNat) outer))⟩:bO)) (p:=(⟨(ae.known.1,sX),(ae.bN.1,jE)⟩:hI)) gR cN d33
    exact cT S DU rfl jy
   have Dd:=dC lf
   refine S.aP 10 .nil [GT.val k ae] fun ac w β S=>?_
   have eO:=pD (x:=k) (p:=ae) a1 a6 d11
   exact cT S DU rfl eO
  have Hk:=dC ju
  refine S.aP 17 .nil [GT.val k ae] fun ac w β S=>?_
  have wk:=pD (x:=k) (p:=ae) a1 a6 d11
  exact cT S DU rfl wk
 have De:=dC eU
 refine S.aP 24 .nil [GT.val k ae] fun ac w β S=>?_
 have uA:=pD (x:=k) (p:=ae) a1 a6 d11
 exact cT S DU rfl uA
theorem Cp (w0:World) (b:List a0) (aQ:af a0) (hb:br w0 b aQ) (tag:Int) (vZ:aq tag) (page:Int) (dV:aq page):Calls Tryz.prog 83 [ab b.length aQ.1,R tag,R page].toArray w0 (dZ aa w0 (ds b tag page:List a0)):=by
 refine Calls.run aa Tryz.func83 ?_
 intro ac β S
 have pg:b.length<=4194304:=ag.le hb
 have ap3:=vZ.b9;have apw:=vZ.hi
 have rn:=dV.b9;have rm:=dV.hi
 refine S.go 8 .nil fun ac w β S=>?_
 refine S.h5 0 tag () vZ fun β N bd aX S up au d4=>?_
 clear up d4
 refine S.h5 0 page () dV fun β N a3 b7 S up ak d8=>?_
 replace au:=au.up up
 clear up d8
 refine S.go 3 .nil fun ac w β S=>S.ct (r:=j5 b (fun e=>ij e tag page)) (d:=9) (Yy w b aQ (S.rd (S.arg hb)) tag (aB bd ():af Int) (S.rd au.al) page (aB a3 ():af Int) (S.rd ak.al)) fun ac w N dH dy S up aW d13=>?_
 clear up d13
 refine S.aP 4 .nil [ab (j5 b (fun e=>ij e tag page)).length dH.1] fun ac w β S=>?_
 exact cT S (show ds b tag page=(j5 b (fun e=>ij e tag page)) by clear S;rfl) rfl aW
theorem Ct (w0:World) (b:List a0) (aQ:af a0) (hb:br w0 b aQ) (e:a0) (he:my e) (jh:b.length<=6):Calls Tryz.prog 186 [ab b.length aQ.1,GT.val e ()].toArray w0 (dZ aa w0 (g_ b e:List a0)):=by
 refine Calls.run aa Tryz.func186 ?_
 intro ac β S
 have hfl:(ds b e.tag e.page).length<=b.length:=Fi _ _
 have apq:(ds b e.tag e.page++[e]).length=(ds b e.tag e.page).length+1:=by simp
 have pg:b.length<=4194304:=ag.le hb
 refine S.go 7 .nil fun ac w β S=>?_
 refine dj ?_
 let bf:bw:=⟨[(0,.v (ab b.length aQ.1)),(3,.p 0 0)],[GT.cells e ()]⟩
 obtain⟨ba,a_,bg,S⟩:∃ba a_ bg,aj Tryz.prog Tryz.f186.ntmps w0 aa ba a_ bg bf ac w:=⟨_,_,_,S.z⟩
 refine lT (fun ac w=>∃mU qJ u N β,aj Tryz.prog Tryz.f186.ntmps w0 aa u N β (bf.dl [0,3] [(5,.v (ab ((ds b e.tag e.page)++[e]).length mU.1))] 0 []) ac w/\ai w0 aa u N qJ ((ds b e.tag e.page)++[e]) mU) ?_ ?_
 ·refine S.df (f:=10) 10 (by kernel_rfl) (by kernel_rfl) fun w S=>?_
  refine S.aI 0 [] [] [(6,.v (ab b.length aQ.1))] .nil fun ac S=>?_
  refine S.aI 1 [] [] [(7,.p 0 0)] .nil fun ac S=>?_
  refine S.aI 2 [] [] [(8,.v (R e.tag))] .nil fun ac S=>?_
  refine S.aI 3 [] [] [(9,.p 0 1)] .nil fun ac S=>?_
  refine S.aI 4 [] [] [(10,.v (R e.page))] .nil fun ac S=>?_
  refine S.aI 6 [] [] [(12,.v (GT.val e ()))] .nil fun ac S=>?_
  refine ao.mh fun W aO=>?_
  refine ao.l0 (l':=cc 10 [0,1,2,3,4,6]) (by kernel_rfl) ?_
  have adv ac w mU qJ u N β (S:aj Tryz.prog Tryz.f186.ntmps w0 aa u N β (bf.dl [0,3] [(5,.v (ab ((ds b e.tag e.page)++[e]).length mU.1))] 1 []) ac w) (hO:ai w0 aa u N qJ ((ds b e.tag e.page)++[e]) mU) (an:cZ a_ ba N u) (aL:cr bf.ay.length bg β):W 0 (cc 10 [0,1,2,3,4,5,6,7,8,9]) ac w:=by
   exact mi aO ⟨rfl,mU,qJ,_,_,_,S.z,hO⟩
  have Qf ac w bE bI b3 cm u N β (S:aj Tryz.prog Tryz.f186.ntmps w0 aa u N β (bf.dl [0,3] [(11,.v (ab (ds b e.tag e.page).length bE.1)),(13,.v (ab 1 b3.1))] 1 []) ac w) (ak:ai w0 aa u N bI (ds b e.tag e.page) bE) (aT:ai w0 aa u N cm ([e]) b3) (d41:J bI cm) (an:∀b,a_ b->N b/\u.heap[b]? =ba.heap[b]? /\¬bI b) (aL:cr bf.ay.length bg β):W 2 (cc 10 [0,1,2,3,4,5,6,7]) ac w:=by
   refine eJ aO 8 ?_
   refine id (S.Cd (α:=a0) ak aT.al (fun _ _ h=>h) (by':=32) (d:=14) (lx:=(ds b e.tag e.page).length) (ly:=1) rfl rfl (by kernel_rfl) (show _<=4194304 by simp only [List.length_append,List.length_cons,List.length_nil];omega) fun ac w N kP wW S up pw d45=>?_)
   have Al:=fun b h=>(⟨(up b (an b h).1 (an b h).2.2).1,(up b (an b h).1 (an b h).2.2).2.trans (an b h).2.1⟩:_/\_)
   refine ao.dA S Al aL fun bx=>?_
   replace aT:=aT.bp (J.symm d41) up
   clear up d45
   exact S.dp aO [9] bx fun _ S=>adv _ _ kP wW _ _ _ S pw Al aL
  have vK ac w bE bI u N β (S:aj Tryz.prog Tryz.f186.ntmps w0 aa u N β (bf.dl [0,3] [(11,.v (ab (ds b e.tag e.page).length bE.1)),(12,.v (GT.val e ()))] 1 []) ac w) (ak:ai w0 aa u N bI (ds b e.tag e.page) bE) (an:∀b,a_ b->N b/\u.heap[b]? =ba.heap[b]? /\¬bI b) (aL:cr bf.ay.length bg β):W 3 (cc 10 [0,1,2,3,4,5,6]) ac w:=by
   refine eJ aO 7 ?_
   refine id (S.pT (α:=a0) (x:=e) (p:=()) (F:=aa) he (fun b h=>False.elim h) (fun b h=>False.elim h) (d:=13) (by kernel_rfl) fun ac w N qu oX S up hr d52=>?_)
   have x3:=fun b h=>(⟨(up b (an b h).1).1,(up b (an b h).1).2.trans (an b h).2.1,(an b h).2.2⟩:_/\_/\_)
   refine ao.dA S (fun b h=>⟨(x3 b h).1,(x3 b h).2.1⟩) aL fun bx=>?_
   have d54:=d52 _ (fun b _ h=>False.elim h) ak.sub
   replace ak:=ak.up up
   clear up d52
   exact S.dp aO [] bx fun _ S=>Qf _ _ bE bI qu oX _ _ _ S ak hr d54 x3 aL
  have adC ac w b3 cm u N β (S:aj Tryz.prog Tryz.f186.ntmps w0 aa u N β (bf.dl [0,3] [(6,.v (ab b.length aQ.1)),(8,.v (R e.tag)),(10,.v (R e.page)),(13,.v (ab 1 b3.1))] 1 []) ac w) (aT:ai w0 aa u N cm ([e]) b3) (an:cZ a_ ba N u) (aL:cr bf.ay.length bg β):W 3 (cc 10 [0,1,2,3,4,6,7]) ac w:=by
   refine eJ aO 5 ?_
   refine id (S.cH 11 (Cp w b aQ (S.rd (S.arg hb)) e.tag (my.tag (d:=e) he) e.page (my.page (d:=e) he)) fun ac w N yM u7 S up iF d59=>?_)
   have IP:=fun b h=>(⟨(up b (an b h).1).1,(up b (an b h).1).2.trans (an b h).2,d59 b (an b h).1⟩:_/\_/\_)
   refine ao.dA S (fun b h=>⟨(IP b h).1,(IP b h).2.1⟩) aL fun bx=>?_
   have d61:=J.w d59 aT.sub
   replace aT:=aT.up up
   clear up d59
   exact S.dp aO [] bx fun _ S=>Qf _ _ yM u7 b3 cm _ _ _ S iF aT (J.symm d61) IP aL
  have an:cZ a_ ba a_ ba:=fun b h=>⟨h,rfl⟩
  have aL:cr bf.ay.length bg bg:=fun _ _=>rfl
  refine jC aO 5 7 ?_ ?_
  ·refine id (S.cH 11 (Cp w b aQ (S.rd (S.arg hb)) e.tag (my.tag (d:=e) he) e.page (my.page (d:=e) he)) fun ac w N s0 FD S up pz d65=>?_)
   have IQ:=fun b h=>(⟨(up b (an b h).1).1,(up b (an b h).1).2.trans (an b h).2,d65 b (an b h).1⟩:_/\_/\_)
   refine ao.dA S (fun b h=>⟨(IQ b h).1,(IQ b h).2.1⟩) aL fun bx=>?_
   clear up d65
   exact S.dp aO [] bx fun _ S=>vK _ _ s0 FD _ _ _ S pz IQ aL
  ·refine id (S.pT (α:=a0) (x:=e) (p:=()) (F:=aa) he (fun b h=>False.elim h) (fun b h=>False.elim h) (d:=13) (by kernel_rfl) fun ac w N uQ B5 S up oI d70=>?_)
   have Q7:=fun b h=>(⟨(up b (an b h).1).1,(up b (an b h).1).2.trans (an b h).2⟩:_/\_)
   refine ao.dA S Q7 aL fun bx=>?_
   clear up d70
   exact S.dp aO [] bx fun _ S=>adC _ _ uQ B5 _ _ _ S oI Q7 aL
 clear S
 rintro ac w ⟨mU,qJ,u,N,β,S,hO⟩
 refine S.ex fun S=>?_
 refine S.go 8 (.cons (pI (((ds b e.tag e.page)++[e]).length:Int) 6) .nil) fun ac w β S=>?_
 replace S:=S.z (σ':=⟨[(15,.v (ab ((ds b e.tag e.page)++[e]).length mU.1)),(19,.v (R (((ds b e.tag e.page++[e]).length-6:Nat):Int)))],[]⟩) (by rw [show(((ds b e.tag e.page++[e]).length-6:Nat):Int)=(if((((ds b e.tag e.page)++[e]).length:Int)-6)>0 then((((ds b e.tag e.page)++[e]).length:Int)-6) else 0) by(repeat' split)<;>omega]<;>kernel_rfl)
 have af6:((((ds b e.tag e.page)++[e]).drop ((ds b e.tag e.page++[e]).length-6)).take (((ds b e.tag e.page)++[e]).length-((ds b e.tag e.page++[e]).length-6))).length=((ds b e.tag e.page)++[e]).length-((ds b e.tag e.page++[e]).length-6):=by first|(simp;done)|(simp;omega)
 refine S.is fun S=>?_
 refine S.aP 5 (.cons (vb hO.al (l:=((ds b e.tag e.page)++[e]).length) (a:=((ds b e.tag e.page++[e]).length-6)) (b:=((ds b e.tag e.page)++[e]).length) rfl (.inr rfl) (.inl ⟨rfl,rfl⟩) (by omega) (by omega) Tryz.underlying35 (by kernel_rfl)) .nil) [ab (((ds b e.tag e.page)++[e]).length-((ds b e.tag e.page++[e]).length-6):Nat) (mU.1.b8 ((ds b e.tag e.page++[e]).length-6) 4)] fun ac w β S=>?_
 have pB:ai w0 aa _ _ qJ ((((ds b e.tag e.page)++[e]).drop ((ds b e.tag e.page++[e]).length-6)).take (((ds b e.tag e.page)++[e]).length-((ds b e.tag e.page++[e]).length-6))) (mU.1.b8 ((ds b e.tag e.page++[e]).length-6) 4,fun i=>mU.2 (((ds b e.tag e.page++[e]).length-6)+i)):=ai.b8 hO (a:=((ds b e.tag e.page++[e]).length-6)) (b:=((ds b e.tag e.page)++[e]).length) (by omega) (by omega)
 exact cT S (show g_ b e=((((ds b e.tag e.page)++[e]).drop ((ds b e.tag e.page++[e]).length-6)).take (((ds b e.tag e.page)++[e]).length-((ds b e.tag e.page++[e]).length-6))) by clear S;(first|exact put_eq (by omega)|exact ajb (by omega))) (show ab (((ds b e.tag e.page)++[e]).length-((ds b e.tag e.page++[e]).length-6):Nat) (mU.1.b8 ((ds b e.tag e.page++[e]).length-6) 4)=GT.val ((((ds b e.tag e.page)++[e]).drop ((ds b e.tag e.page++[e]).length-6)).take (((ds b e.tag e.page)++[e]).length-((ds b e.tag e.page++[e]).length-6))) ((mU.1.b8 ((ds b e.tag e.page++[e]).length-6) 4,fun i=>mU.2 (((ds b e.tag e.page++[e]).length-6)+i)):af a0) from congrArg (fun z=>ab z (mU.1.b8 ((ds b e.tag e.page++[e]).length-6) 4)) (show(((ds b e.tag e.page)++[e]).length-((ds b e.tag e.page++[e]).length-6):Nat)=((((ds b e.tag e.page)++[e]).drop ((ds b e.tag e.page++[e]).length-6)).take (((ds b e.tag e.page)++[e]).length-((ds b e.tag e.page++[e]).length-6))).length by omega)) pB
theorem nu {p:Prop} (h:p:=by clear S;(first|(rw [S1 (by assumption)];done)|(rw [S2 (by assumption) (by assumption)];done)|(rw [yw (by assumption) (by assumption) (by omega) (by omega) (by assumption) ot,S3 (by assumption)];first|done|rfl)|(rw [yw (by assumption) (by assumption) (by omega) (by omega) (by assumption) ot,S4 (by assumption) (by assumption)];first|done|rfl)|(rw [yw (by assumption) (by assumption) (by omega) (by omega) (by assumption) ot,S5 (by assumption) (by assumption) (by assumption) (by assumption)];first|done|rfl))):p:=h
theorem Yt (w0:World) (h:ad) (aK:cK) (ax:br w0 h aK) (m:Int) (g:Int) (page:Int) (dV:aq page) (need:Int) (io:Bool) (jh:io=true):Calls Tryz.prog 125 [GT.val h aK,R m,R g,R page,R need,B io].toArray w0 (qO aa w0 ((bk h m g page need io).1:ad) ((bk h m g page need io).2.1:Int) ((bk h m g page need io).2.2:Bool)):=by
 refine Calls.run aa Tryz.func125 ?_
 intro ac β S
 have I9:io=true:=by assumption
 subst I9
 have gO:h.mem.length<=4194304:=ag.le (a4.mem (d:=h) ax)
 have gP:h.I.length<=4194304:=ag.le (a4.I (d:=h) ax)
 have gM:h.buf.length<=4194304:=ag.le (a4.buf (d:=h) ax)
 have gN:h.ar.length<=4194304:=ag.le (a4.ar (d:=h) ax)
 have rn:=dV.b9;have rm:=dV.hi
 refine S.go 11 .nil fun ac w β S=>S.ct (r:=h) (d:=28) (hn w h aK (S.rd (S.arg ax))) fun ac w N ae aX S up au d4=>?_
 clear up d4
 refine S.go 5 .nil fun ac w β S=>?_
 refine S.w1 2 au fun β N a3 b7 S up ak d8=>?_
 clear up d8 au
 refine S.go 3 .nil fun ac w β S=>S.fk (r:=(aC h m).1) (r':=(aC h m).2) (d:=32) (Cs w h aK (S.rd (S.arg ax)) m) fun ac w N hg dH dy mY S up fa cJ d15 d16 d17=>?_
 replace ak:=ak.up up
 clear up d15
 clear d16
 refine S.go 10 .nil fun ac w β S=>?_
 refine S.r4 ⟨[(1,.v (R m)),(2,.v (R g)),(3,.v (R page)),(4,.v (R need)),(5,.v (B true)),(12,.p 1 0),(15,.v (aM (aB a3 ae:af ad).1.b ((aB a3 ae:af ad).1.off+0*4))),(16,.p 2 0),(57,.v (B ((((!(dg h))||(!(aC h m).2))||(!(aS g 0 (((aC h m).1.U.length:Int)-1))))||((need != 1)&&(need != 2)))))],[GT.cells h aK,c2 ad,GT.cells (aC h m).1 hg]⟩ ?_ ?_
 ·clear S;intro S
  refine S.bs 5 (.cons (aY fun w hw=>tn w h aK (cQ (S.arg ax) hw)) .nil) (!(dg h)) (fun ac w β j8 S=>?_) (fun ac w β j8 S=>?_)
  ·have iU:=cw j8
   exact S.e5 20 .nil fun ac w β S=>⟨rfl,_,by rw [j8];exact S.z⟩
  have tU:=cl j8
  have PG:=oA tU
  refine S.bs 4 .nil (!(aC h m).2) (fun ac w β fR S=>?_) (fun ac w β fR S=>?_)
  ·have z5:=cw fR
   exact S.e5 16 .nil fun ac w β S=>⟨rfl,_,by rw [j8,fR];exact S.z⟩
  have iV:=cl fR
  have tQ:=sH iV
  refine S.bs 8 (.cons (aY fun w hw=>gJ w g ((aC h m).1.U.length:Int) (by omega)) .nil) (!(aS g 0 (((aC h m).1.U.length:Int)-1))) (fun ac w β fo S=>?_) (fun ac w β fo S=>?_)
  ·have jv:=cw fo
   have sf:=dC jv
   exact S.e5 8 .nil fun ac w β S=>⟨rfl,_,by rw [j8,fR,fo];exact S.z⟩
  have sg:=cl fo
  have xQ:=cM sg
  refine S.a8 3 .nil (need != 1) (fun ac w β nk tR S=>?_) (fun ac w β nk tR S=>?_)
  ·exact S.e5 5 .nil fun ac w β S=>⟨rfl,_,by rw [j8,fR,fo,nk];exact S.z⟩
  exact S.e5 5 .nil fun ac w β S=>⟨rfl,_,by rw [j8,fR,fo,nk];exact S.z⟩
 clear S;intro ac w β S
 refine S.bs 1 .nil ((((!(dg h))||(!(aC h m).2))||(!(aS g 0 (((aC h m).1.U.length:Int)-1))))||((need != 1)&&(need != 2))) (fun ac w β nm S=>?_) (fun ac w β nm S=>?_)
 ·refine S.aP 10 (.cons (hU ak.al (t:=37) (k:=0) (Nat.succ_pos 0) rfl (by kernel_rfl) (by kernel_rfl)) .nil) [GT.val h ((aB a3 ae:af ad).2 0),R (-1),B false] fun ac w β S=>?_
  obtain⟨k8,eO,_,_⟩:=kq ak (k:=0) (Nat.succ_pos 0)
  change ai w0 aa _ _ k8 h ((aB a3 ae:af ad).2 0) at eO
  exact lq (p':=()) (p'':=()) S nu nu nu rfl rfl rfl eO (show aq (-1) from⟨by decide,by decide⟩) trivial
 obtain⟨rf,si⟩:=oL nm
 obtain⟨nQ,qa⟩:=oL rf
 obtain⟨rh,sj⟩:=oL nQ
 have lg:=cl rh
 have abL:=oA lg
 have pc:=cl sj
 have zY:=sH pc
 have xU:=cl qa
 have Df:=cM xU
 have PI:=Tu si
 refine S.bs 28 (.cons (cP (bn.U (d:=(aC h m).1) fa.al) g Tryz.underlying68) (.cons (dG (bn.U (d:=(aC h m).1) fa.al) 66 g.toNat 4 (ab (el (aC h m).1.U g.toNat).live.length (hg.U.2 g.toNat).live.1)) (.cons (aY fun w hw=>Gf w (el (aC h m).1.U g.toNat).live (hg.U.2 g.toNat).live (cQ (a5.live (d:=(el (aC h m).1.U g.toNat)) (ag.el (bn.U (d:=(aC h m).1) fa.al) g.toNat (by omega))) hw) page need) .nil))) (!(c6 (el (aC h m).1.U g.toNat).live page need).2) (fun ac w β ri S=>?_) (fun ac w β ri S=>?_)
 ·have Di:=cw ri
  refine S.aP 10 (.cons (hU ak.al (t:=37) (k:=0) (Nat.succ_pos 0) rfl (by kernel_rfl) (by kernel_rfl)) .nil) [GT.val h ((aB a3 ae:af ad).2 0),R (-1),B false] fun ac w β S=>?_
  obtain⟨lX,jA,_,_⟩:=kq ak (k:=0) (Nat.succ_pos 0)
  change ai w0 aa _ _ lX h ((aB a3 ae:af ad).2 0) at jA
  exact lq (p':=()) (p'':=()) S nu nu nu rfl rfl rfl jA (show aq (-1) from⟨by decide,by decide⟩) trivial
 have vF:=cl ri
 have zZ:=u0 vF
 refine S.go 10 .nil fun ac w β S=>?_
 refine m6 S (fun ac w=>∃(bl:ad) (ep:Nat->cK) (jT:aw) (u:_) (N:_) (β:_),(bl=m9 h m (c6 (el (aC h m).1.U g.toNat).live page need).1 need)/\(ep 0).I.1=ae.I.1/\aj Tryz.prog Tryz.f125.ntmps w0 aa u N β ⟨[(1,.v (R m)),(2,.v (R g)),(3,.v (R page)),(4,.v (R need)),(5,.v (B true)),(12,.p 1 0),(15,.v (aM ((aB a3 ae:af ad).1).b (((aB a3 ae:af ad).1).off+0*4))),(18,.v (R (c6 (el (aC h m).1.U g.toNat).live page need).1))],[GT.cells h aK,c2 ad]⟩ ac w/\ai w0 aa u N jT ([bl]) (((aB a3 ae:af ad).1,ep):af ad)) ?_ ?_
 ·clear S;intro S
  refine S.a8 0 .nil (need==2) (fun ac w β sl z0 S=>?_) (fun ac w β sl z0 S=>?_)
  ·obtain⟨B3,nw,_,F0⟩:=nN ak (fun _ o=>zT o (k:=m.toNat) (show m.toNat<h.I.length by omega))
   change ai w0 aa _ _ B3 (el h.I m.toNat).bj (((aB a3 ae:af ad).2 0).I.2 m.toNat).bj at nw
   have Kj:=ag.le nw.al
   have agZ:=nw.sub
   refine S.go 10 (.cons (g7 ak.al (t:=34) (k:=0) (j:=1) (v:=ab h.I.length ((aB a3 ae:af ad).2 0).I.1) (Nat.succ_pos 0) (by kernel_rfl) (by kernel_rfl)) (.cons (cP (di ak.al) m Tryz.underlying34) (.cons (dG (di ak.al) 67 m.toNat 2 (ab (el h.I m.toNat).bj.length (((aB a3 ae:af ad).2 0).I.2 m.toNat).bj.1)) (.cons (qN (bn.bj (d:=(el h.I m.toNat)) (ag.el (di ak.al) m.toNat (by omega))) (l:=(el h.I m.toNat).bj.length) (k:=(c6 (el (aC h m).1.U g.toNat).live page need).1.toNat) (i:=(c6 (el (aC h m).1.U g.toNat).live page need).1) rfl (by omega) (by omega) Tryz.underlying67 (by kernel_rfl)) .nil)))) fun ac w β S=>S.kV (α:=Bool) nw (t:=4) (k:=(c6 (el (aC h m).1.U g.toNat).live page need).1.toNat) (j:=0) (off:=(((aB a3 ae:af ad).2 0).I.2 m.toNat).bj.1.off+(c6 (el (aC h m).1.U g.toNat).live page need).1.toNat*1) (v:=B true) (y:=true) (q:=()) (fun _ _ _=>⟨aa,trivial,fun _ h=>False.elim h⟩) fun w N td wC S up h_ d74 BG sJ=>?_
   clear d74 nw
   obtain⟨wx,qo,AF⟩:=F0 _ _ _ _ _ aa up h_ BG (fun b _ h=>False.elim h) List.length_set sJ
   obtain⟨zi,Af⟩:∃z,z=h.I.set m.toNat {el h.I m.toNat with bj:=((el h.I m.toNat).bj.set (c6 (el (aC h m).1.U g.toNat).live page need).1.toNat true)}:=⟨_,rfl⟩
   have qp:ai w0 aa w N (Or b7 td) [(⟨h.mem,zi,h.buf,h.ar⟩:ad)] (((aB a3 ae:af ad).1,wx):af ad):=by rw [Af];exact qo
   obtain⟨af9,aaG⟩:=BL Af (show m.toNat<h.I.length by omega) List.length_set
   change (wx 0).I.1=((aB a3 ae:af ad).2 0).I.1 at AF
   clear up h_ sJ qo
   exact S.e5 1 .nil fun ac w β S=>⟨rfl,(⟨h.mem,zi,h.buf,h.ar⟩:ad),wx,(Or b7 td),_,_,_,(by clear S;first|exact CY (by assumption) (by assumption)|exact CX (by assumption)),AF,S.z,qp⟩
  exact S.e5 2 .nil fun ac w β S=>⟨rfl,h,(aB a3 ae:af ad).2,b7,_,_,_,(by clear S;first|exact CY (by assumption) (by assumption)|exact CX (by assumption)),rfl,S.z,ak⟩
 clear S ak fa cJ
 rintro ac w ⟨bl,ep,jT,u,N,β,ot,ae7,S,dQ⟩
 have bo:=vt ot (u0 (by assumption)).1
 refine S.ex fun S=>?_
 have i86:my (eQ bl.ar (cq m g) page).1:=(Pr (CA dQ.al) (cq m g) page)
 refine S.go 45 (.cons (aY fun w hw=>Cx w m g) (.cons (g7 dQ.al (t:=35) (k:=0) (j:=3) (v:=ab bl.ar.length (ep 0).ar.1) (Nat.succ_pos 0) (by kernel_rfl) (by kernel_rfl)) (.cons (aY fun w hw=>N4 w bl.ar (ep 0).ar (cQ (CA dQ.al) hw) (cq m g) page) .nil))) fun ac w β S=>?_
 refine S.r4 ⟨[(1,.v (R m)),(2,.v (R g)),(3,.v (R page)),(4,.v (R need)),(12,.p 1 0),(15,.v (aM ((aB a3 ae:af ad).1).b (((aB a3 ae:af ad).1).off+0*4))),(18,.v (R (c6 (el (aC h m).1.U g.toNat).live page need).1)),(20,.v (aM ((aB a3 ae:af ad).1).b (((aB a3 ae:af ad).1).off+0*4+3))),(21,.v (R (cq m g))),(22,.p 2 0),(105,.v (B ((eQ bl.ar (cq m g) page).2&&(eB (eQ bl.ar (cq m g) page).1.bW need))))],[GT.cells h aK,c2 ad,GT.cells (eQ bl.ar (cq m g) page).1 ()]⟩ ?_ ?_
 ·clear S;intro S
  refine S.bs 3 .nil (eQ bl.ar (cq m g) page).2 (fun ac w β vG S=>?_) (fun ac w β vG S=>?_)
  ·exact S.e5 6 (.cons (aY fun w hw=>tm w (eQ bl.ar (cq m g) page).1.bW need) .nil) fun ac w β S=>⟨rfl,_,by rw [vG];exact S.z⟩
  exact S.e5 6 .nil fun ac w β S=>⟨rfl,_,by rw [vG];exact S.z⟩
 clear S;intro ac w β S
 refine S.bs 1 .nil ((eQ bl.ar (cq m g) page).2&&(eB (eQ bl.ar (cq m g) page).1.bW need)) (fun ac w β Ab S=>?_) (fun ac w β Ab S=>?_)
 ·obtain⟨acY,HM⟩:=NF Ab
  have PM:=tB HM
  refine S.go 2 .nil fun ac w β S=>?_
  refine dj ?_
  refine S.df (f:=6) 3 (by kernel_rfl) (by kernel_rfl) fun w S=>?_
  refine S.aI 0 [0] [] [(106,.v (GT.val bl (ep 0)))] (.cons (hU dQ.al (t:=37) (k:=0) (Nat.succ_pos 0) rfl (by kernel_rfl) (by kernel_rfl)) .nil) fun ac S=>?_
  refine S.wL ⟨[(12,.p 1 0),(13,.v (R (eQ bl.ar (cq m g) page).1.host)),(14,.v (B true))],[GT.cells h aK,[ab bl.mem.length (ep 0).mem.1,ab bl.I.length (ep 0).I.1,ab bl.buf.length (ep 0).buf.1,ab bl.ar.length (ep 0).ar.1]]⟩ 3 .nil fun ac w β S=>?_
  refine S.ex fun S=>?_
  refine S.aP 2 .nil [GT.val bl (ep 0),R (eQ bl.ar (cq m g) page).1.host,B true] fun ac w β S=>?_
  obtain⟨wZ,nx,_,_⟩:=kq dQ (k:=0) (Nat.succ_pos 0)
  change ai w0 aa _ _ wZ bl (ep 0) at nx
  exact lq (p':=()) (p'':=()) S nu nu nu rfl rfl rfl nx (my.host (d:=(eQ bl.ar (cq m g) page).1) i86) trivial
 have i96:fx (bK (el (el bl.I m.toNat).tables g.toNat) page).1:=(Ce (ag.el (bn.tables (d:=(el bl.I m.toNat)) (ag.el (di dQ.al) m.toNat (by omega))) g.toNat (by omega)) page)
 refine S.go 26 (.cons (g7 dQ.al (t:=34) (k:=0) (j:=1) (v:=ab bl.I.length (ep 0).I.1) (Nat.succ_pos 0) (by kernel_rfl) (by kernel_rfl)) (.cons (cP (di dQ.al) m Tryz.underlying34) (.cons (dG (di dQ.al) 69 m.toNat 7 (ab (el bl.I m.toNat).tables.length ((ep 0).I.2 m.toNat).tables.1)) (.cons (cP (bn.tables (d:=(el bl.I m.toNat)) (ag.el (di dQ.al) m.toNat (by omega))) g Tryz.underlying69) (.cons (dR (bn.tables (d:=(el bl.I m.toNat)) (ag.el (di dQ.al) m.toNat (by omega))) 105 g.toNat) (.cons (aY fun w hw=>Co w (el (el bl.I m.toNat).tables g.toNat) (((ep 0).I.2 m.toNat).tables.2 g.toNat) (cQ (ag.el (bn.tables (d:=(el bl.I m.toNat)) (ag.el (di dQ.al) m.toNat (by omega))) g.toNat (by omega)) hw) page) .nil)))))) fun ac w β S=>?_
 refine S.r4 ⟨[(1,.v (R m)),(2,.v (R g)),(3,.v (R page)),(4,.v (R need)),(12,.p 1 0),(15,.v (aM ((aB a3 ae:af ad).1).b (((aB a3 ae:af ad).1).off+0*4))),(18,.v (R (c6 (el (aC h m).1.U g.toNat).live page need).1)),(20,.v (aM ((aB a3 ae:af ad).1).b (((aB a3 ae:af ad).1).off+0*4+3))),(21,.v (R (cq m g))),(24,.p 3 0),(136,.v (B (((!(bK (el (el bl.I m.toNat).tables g.toNat) page).2)||((bK (el (el bl.I m.toNat).tables g.toNat) page).1.page==(-1)))||(!(eB (bK (el (el bl.I m.toNat).tables g.toNat) page).1.bW need)))))],[GT.cells h aK,c2 ad,GT.cells (eQ bl.ar (cq m g) page).1 (),GT.cells (bK (el (el bl.I m.toNat).tables g.toNat) page).1 ()]⟩ ?_ ?_
 ·clear S;intro S
  refine S.bs 4 .nil (!(bK (el (el bl.I m.toNat).tables g.toNat) page).2) (fun ac w β np S=>?_) (fun ac w β np S=>?_)
  ·have ac0:=cw np
   exact S.e5 12 .nil fun ac w β S=>⟨rfl,_,by rw [np];exact S.z⟩
  have ac1:=cl np
  refine S.a8 5 .nil ((bK (el (el bl.I m.toNat).tables g.toNat) page).1.page==(-1)) (fun ac w β vB He S=>?_) (fun ac w β vB He S=>?_)
  ·exact S.e5 7 .nil fun ac w β S=>⟨rfl,_,by rw [np,vB];exact S.z⟩
  exact S.e5 7 (.cons (aY fun w hw=>tm w (bK (el (el bl.I m.toNat).tables g.toNat) page).1.bW need) .nil) fun ac w β S=>⟨rfl,_,by rw [np,vB];exact S.z⟩
 clear S;intro ac w β S
 refine S.bs 1 .nil (((!(bK (el (el bl.I m.toNat).tables g.toNat) page).2)||((bK (el (el bl.I m.toNat).tables g.toNat) page).1.page==(-1)))||(!(eB (bK (el (el bl.I m.toNat).tables g.toNat) page).1.bW need))) (fun ac w β z4 S=>?_) (fun ac w β z4 S=>?_)
 ·refine S.go 6 .nil fun ac w β S=>S.o0 (d:=140) dQ (Gh w bl (((aB a3 ae:af ad).1,ep):af ad) jT (S.hP dQ) (fun b hb=>(S.sep b (dQ.sub b hb)).1) m (c6 (el (aC h m).1.U g.toNat).live page need).1 need (by exact(vt ot (u0 (by assumption)).1).1)) fun ac w N fW e2 S up gE d107 Jj=>?_
  change (fW 0).I.1=(ep 0).I.1 at Jj
  clear up d107 dQ
  obtain⟨cx,Ag⟩:∃z,z=(gA bl m (c6 (el (aC h m).1.U g.toNat).live page need).1 need):=⟨_,rfl⟩
  have fV:ai w0 aa w N e2 [cx] ((((aB a3 ae:af ad).1),fW):af ad):=by rw [Ag];exact gE
  clear gE
  have Kc:=KC Ag (vt ot (u0 (by assumption)).1).1
  try dsimp only at Kc
  refine S.go 12 (.cons (g7 fV.al (t:=34) (k:=0) (j:=1) (v:=ab cx.I.length (fW 0).I.1) (Nat.succ_pos 0) (by kernel_rfl) (by kernel_rfl)) (.cons (cP (di fV.al) m Tryz.underlying34) .nil)) fun ac w β S=>?_
  refine dj ?_
  refine S.df (f:=28) 27 (by kernel_rfl) (by kernel_rfl) fun w S=>?_
  refine S.hm 3 [0,1,2,3,4,5,6,7,8,9,10,11,12,13,14,15,16,17,18,19,20,21,22,23,24] [] [(148,.v (ab (el cx.I m.toNat).tables.length ((fW 0).I.2 m.toNat).tables.1)),(149,.v (R g)),(156,.v (GT.val (el (el cx.I m.toNat).tables g.toNat) (((fW 0).I.2 m.toNat).tables.2 g.toNat))),(164,.v (ab (el (el cx.I m.toNat).U g.toNat).live.length (((fW 0).I.2 m.toNat).U.2 g.toNat).live.1)),(168,.v (ab (el cx.I m.toNat).outer.length ((fW 0).I.2 m.toNat).outer.1)),(169,.v (R page))] (.cons (dG (di fV.al) 69 m.toNat 7 (ab (el cx.I m.toNat).tables.length ((fW 0).I.2 m.toNat).tables.1)) (.cons (dG (di fV.al) 69 m.toNat 7 (ab (el cx.I m.toNat).tables.length ((fW 0).I.2 m.toNat).tables.1)) (.cons (cP (bn.tables (d:=(el cx.I m.toNat)) (ag.el (di fV.al) m.toNat (by omega))) g Tryz.underlying69) (.cons (dR (bn.tables (d:=(el cx.I m.toNat)) (ag.el (di fV.al) m.toNat (by omega))) 105 g.toNat) (.cons (dG (di fV.al) 68 m.toNat 3 (ab (el cx.I m.toNat).U.length ((fW 0).I.2 m.toNat).U.1)) (.cons (cP (bn.U (d:=(el cx.I m.toNat)) (ag.el (di fV.al) m.toNat (by omega))) g Tryz.underlying68) (.cons (dG (bn.U (d:=(el cx.I m.toNat)) (ag.el (di fV.al) m.toNat (by omega))) 66 g.toNat 4 (ab (el (el cx.I m.toNat).U g.toNat).live.length (((fW 0).I.2 m.toNat).U.2 g.toNat).live.1)) (.cons (dG (di fV.al) 66 m.toNat 0 (ab (el cx.I m.toNat).outer.length ((fW 0).I.2 m.toNat).outer.1)) .nil)))))))) fun ac S=>?_
  refine ao.one (i:=25) (by kernel_rfl) ?_
  refine id (S.cH 170 (N3 w (el (el cx.I m.toNat).tables g.toNat) (((fW 0).I.2 m.toNat).tables.2 g.toNat) (S.rd (ag.el (bn.tables (d:=(el cx.I m.toNat)) (ag.el (di fV.al) m.toNat (by omega))) g.toNat (by omega))) (el (el cx.I m.toNat).U g.toNat).live (((fW 0).I.2 m.toNat).U.2 g.toNat).live (S.rd (a5.live (d:=(el (el cx.I m.toNat).U g.toNat)) (ag.el (bn.U (d:=(el cx.I m.toNat)) (ag.el (di fV.al) m.toNat (by omega))) g.toNat (by omega)))) (el cx.I m.toNat).outer ((fW 0).I.2 m.toNat).outer (S.rd (bn.outer (d:=(el cx.I m.toNat)) (ag.el (di fV.al) m.toNat (by omega)))) page) fun ac w N aje Fs S up KR d115=>?_)
  refine ao.next S up (by kernel_rfl) ?_
  have d116:=J.w d115 fV.sub
  replace fV:=fV.up up
  clear up d115
  refine S.aI 26 [26] [] [(171,.v (aM ((fW 0).I.2 m.toNat).tables.1.b (((fW 0).I.2 m.toNat).tables.1.off+g.toNat*2)))] (.cons (cP (bn.tables (d:=(el cx.I m.toNat)) (ag.el (di fV.al) m.toNat (by omega))) g Tryz.underlying69) .nil) fun ac S=>?_
  refine ao.one (i:=27) (by kernel_rfl) ?_
  obtain⟨y5,nW,LZ,FY⟩:=nN fV (fun _ o=>zU o (k:=m.toNat) (show m.toNat<cx.I.length by omega))
  change ai w0 aa _ _ y5 (el cx.I m.toNat).tables ((fW 0).I.2 m.toNat).tables at nW
  have afR:=ag.le nW.al
  have agJ:=nW.sub
  refine id (S.n4 (α:=bO) nW (t:=105) (k:=g.toNat) (off:=((fW 0).I.2 m.toNat).tables.1.off+g.toNat*2) KR (J.symm (J.symm (J.part d116 LZ))) fun w N oV LD S up sM d126 L0 AU=>?_)
  refine ao.last (by kernel_rfl) ?_
  clear d126 nW
  obtain⟨lo,A3,oB⟩:=FY _ _ _ _ _ Fs up sM L0 d116 List.length_set AU
  obtain⟨c9,Ad⟩:∃z,z=cx.I.set m.toNat {el cx.I m.toNat with tables:=((el cx.I m.toNat).tables.set g.toNat (q3 (el (el cx.I m.toNat).tables g.toNat) (el (el cx.I m.toNat).U g.toNat).live (el cx.I m.toNat).outer page))}:=⟨_,rfl⟩
  have jg:ai w0 aa w N (Or e2 oV) [(⟨cx.mem,c9,cx.buf,cx.ar⟩:ad)] (((((aB a3 ae:af ad).1)),lo):af ad):=by rw [Ad];exact A3
  obtain⟨afS,aaB⟩:=E2 Ad (show m.toNat<cx.I.length by omega) List.length_set
  change (lo 0).I.1=(fW 0).I.1 at oB
  clear up sM AU A3
  refine ao.done (by kernel_rfl) ?_ _
  refine S.ex fun S=>?_
  have i138:fx (bK (el (el c9 m.toNat).tables g.toNat) page).1:=(Ce (ag.el (bn.tables (d:=(el c9 m.toNat)) (ag.el (gG oB (gY jg.al)) m.toNat (by omega))) g.toNat (by omega)) page)
  refine S.go 18 (.cons (dG (gG oB (gY jg.al)) 69 m.toNat 7 (ab (el c9 m.toNat).tables.length (((lo 0).I.2) m.toNat).tables.1)) (.cons (cP (bn.tables (d:=(el c9 m.toNat)) (ag.el (gG oB (gY jg.al)) m.toNat (by omega))) g Tryz.underlying69) (.cons (dR (bn.tables (d:=(el c9 m.toNat)) (ag.el (gG oB (gY jg.al)) m.toNat (by omega))) 105 g.toNat) (.cons (aY fun w hw=>Co w (el (el c9 m.toNat).tables g.toNat) ((((lo 0).I.2) m.toNat).tables.2 g.toNat) (cQ (ag.el (bn.tables (d:=(el c9 m.toNat)) (ag.el (gG oB (gY jg.al)) m.toNat (by omega))) g.toNat (by omega)) hw) page) .nil)))) fun ac w β S=>?_
  refine dj ?_
  refine S.df (f:=14) 13 (by kernel_rfl) (by kernel_rfl) fun w S=>?_
  refine S.hm 3 [0,1,2,3,4,5,6,7,8,9,10] [] [(184,.v (aM ((((aB a3 ae:af ad).1))).b (((((aB a3 ae:af ad).1))).off+0*4+3))),(187,.v (ab cx.ar.length (lo 0).ar.1)),(194,.v (GT.val (⟨(cq m g),page,(bK (el (el c9 m.toNat).tables g.toNat) page).1.page,(bK (el (el c9 m.toNat).tables g.toNat) page).1.bW⟩:a0) ()))] (.cons (g7 jg.al (t:=35) (k:=0) (j:=3) (v:=ab cx.ar.length (lo 0).ar.1) (Nat.succ_pos 0) (by kernel_rfl) (by kernel_rfl)) (.cons (dY (s:=Instr.build 177 [(0,R (cq m g)),(1,R page),(2,R (bK (el (el c9 m.toNat).tables g.toNat) page).1.page),(3,R (bK (el (el c9 m.toNat).tables g.toNat) page).1.bW)].toArray) (v:= .agg [R (cq m g),R page,R (bK (el (el c9 m.toNat).tables g.toNat) page).1.page,R (bK (el (el c9 m.toNat).tables g.toNat) page).1.bW].toArray) (fun w=>by kernel_rfl)) .nil)) fun ac S=>?_
  refine ao.one (i:=11) (by kernel_rfl) ?_
  refine id (S.cH 195 (Ct w cx.ar (lo 0).ar (S.rd (Oz jg.al)) (⟨(cq m g),page,(bK (el (el c9 m.toNat).tables g.toNat) page).1.page,(bK (el (el c9 m.toNat).tables g.toNat) page).1.bW⟩:a0) (show my (⟨(cq m g),page,(bK (el (el c9 m.toNat).tables g.toNat) page).1.page,(bK (el (el c9 m.toNat).tables g.toNat) page).1.bW⟩:a0) from⟨(yZ m g),dV,(fx.page (d:=(bK (el (el c9 m.toNat).tables g.toNat) page).1) i138),(fx.bW (d:=(bK (el (el c9 m.toNat).tables g.toNat) page).1) i138)⟩) (by(first|omega|(dsimp only;omega)))) fun ac w N wy BZ S up qm d142=>?_)
  refine ao.next S up (by kernel_rfl) ?_
  have d143:=J.w d142 jg.sub
  replace jg:=jg.up up
  clear up d142
  refine S.aI 12 [12] [] [(196,.v (aM ((((aB a3 ae:af ad).1))).b (((((aB a3 ae:af ad).1))).off+0*4+3)))] .nil fun ac S=>?_
  refine ao.one (i:=13) (by kernel_rfl) ?_
  refine id (S.qz (α:=ad) jg (t:=35) (v:=ab (g_ cx.ar (⟨(cq m g),page,(bK (el (el c9 m.toNat).tables g.toNat) page).1.page,(bK (el (el c9 m.toNat).tables g.toNat) page).1.bW⟩:a0)).length wy.1) (k:=0) (j:=3) (off:=((((aB a3 ae:af ad).1))).off+0*4+3) (y:=(⟨cx.mem,c9,cx.buf,(g_ cx.ar (⟨(cq m g),page,(bK (el (el c9 m.toNat).tables g.toNat) page).1.page,(bK (el (el c9 m.toNat).tables g.toNat) page).1.bW⟩:a0))⟩:ad)) (q:=({(lo 0) with ar:=wy}:cK)) (Fy:=BZ) (by kernel_rfl) (by kernel_rfl) (Nat.succ_pos 0) (by kernel_rfl) (by kernel_rfl) (Nat.le_of_ble_eq_true (by kernel_rfl)) (by kernel_rfl) (fun G ha j6=>⟨_,Li ha qm.own (fun b h ah=>d143 b (j6 b h) ah),fun _ h=>h⟩) d143 qm.sub qm.cU fun w N wU S up A4 d147 L1 KI=>?_)
  refine ao.last (by kernel_rfl) ?_
  obtain⟨kf,wg,ae4⟩:∃kf:Nat->cK,ai w0 aa _ _ wU [(⟨cx.mem,c9,cx.buf,(g_ cx.ar (⟨(cq m g),page,(bK (el (el c9 m.toNat).tables g.toNat) page).1.page,(bK (el (el c9 m.toNat).tables g.toNat) page).1.bW⟩:a0))⟩:ad)] ((((((aB a3 ae:af ad).1))),kf):af ad)/\(kf 0).I.1=(lo 0).I.1:=⟨_,A4,rfl⟩
  clear up d147 jg A4 L1 KI
  refine ao.done (by kernel_rfl) ?_ _
  refine S.ex fun S=>?_
  refine S.go 2 .nil fun ac w β S=>?_
  refine dj ?_
  refine S.df (f:=6) 3 (by kernel_rfl) (by kernel_rfl) fun w S=>?_
  refine S.aI 0 [0] [] [(197,.v (GT.val (⟨cx.mem,c9,cx.buf,(g_ cx.ar (⟨(cq m g),page,(bK (el (el c9 m.toNat).tables g.toNat) page).1.page,(bK (el (el c9 m.toNat).tables g.toNat) page).1.bW⟩:a0))⟩:ad) (kf 0)))] (.cons (hU wg.al (t:=37) (k:=0) (Nat.succ_pos 0) rfl (by kernel_rfl) (by kernel_rfl)) .nil) fun ac S=>?_
  refine S.wL ⟨[(12,.p 1 0),(13,.v (R (bK (el (el c9 m.toNat).tables g.toNat) page).1.page)),(14,.v (B true))],[GT.cells h aK,[ab cx.mem.length (kf 0).mem.1,ab c9.length (kf 0).I.1,ab cx.buf.length (kf 0).buf.1,ab (g_ cx.ar (⟨(cq m g),page,(bK (el (el c9 m.toNat).tables g.toNat) page).1.page,(bK (el (el c9 m.toNat).tables g.toNat) page).1.bW⟩:a0)).length (kf 0).ar.1]]⟩ 3 .nil fun ac w β S=>?_
  refine S.ex fun S=>?_
  refine S.aP 2 .nil [GT.val (⟨cx.mem,c9,cx.buf,(g_ cx.ar (⟨(cq m g),page,(bK (el (el c9 m.toNat).tables g.toNat) page).1.page,(bK (el (el c9 m.toNat).tables g.toNat) page).1.bW⟩:a0))⟩:ad) (kf 0),R (bK (el (el c9 m.toNat).tables g.toNat) page).1.page,B true] fun ac w β S=>?_
  obtain⟨Fv,A5,_,_⟩:=kq wg (k:=0) (Nat.succ_pos 0)
  change ai w0 aa _ _ Fv (⟨cx.mem,c9,cx.buf,(g_ cx.ar (⟨(cq m g),page,(bK (el (el c9 m.toNat).tables g.toNat) page).1.page,(bK (el (el c9 m.toNat).tables g.toNat) page).1.bW⟩:a0))⟩:ad) (kf 0) at A5
  exact lq (p':=()) (p'':=()) S nu nu nu rfl rfl rfl A5 (fx.page (d:=(bK (el (el c9 m.toNat).tables g.toNat) page).1) i138) trivial
 obtain⟨Hv,Hw⟩:=oL z4
 obtain⟨Hx,Hy⟩:=oL Hv
 have Hz:=cl Hx
 have Hg:¬((bK (el (el bl.I m.toNat).tables g.toNat) page).1.page=(-1)):=ne_of_beq_false Hy
 have HA:=cl Hw
 have abq:=tB HA
 refine S.go 4 .nil fun ac w β S=>?_
 refine dj ?_
 refine S.df (f:=14) 13 (by kernel_rfl) (by kernel_rfl) fun w S=>?_
 refine S.hm 3 [0,1,2,3,4,5,6,7,8,9,10] [] [(184,.v (aM ((aB a3 ae:af ad).1).b (((aB a3 ae:af ad).1).off+0*4+3))),(187,.v (ab bl.ar.length (ep 0).ar.1)),(194,.v (GT.val (⟨(cq m g),page,(bK (el (el bl.I m.toNat).tables g.toNat) page).1.page,(bK (el (el bl.I m.toNat).tables g.toNat) page).1.bW⟩:a0) ()))] (.cons (g7 dQ.al (t:=35) (k:=0) (j:=3) (v:=ab bl.ar.length (ep 0).ar.1) (Nat.succ_pos 0) (by kernel_rfl) (by kernel_rfl)) (.cons (dY (s:=Instr.build 177 [(0,R (cq m g)),(1,R page),(2,R (bK (el (el bl.I m.toNat).tables g.toNat) page).1.page),(3,R (bK (el (el bl.I m.toNat).tables g.toNat) page).1.bW)].toArray) (v:= .agg [R (cq m g),R page,R (bK (el (el bl.I m.toNat).tables g.toNat) page).1.page,R (bK (el (el bl.I m.toNat).tables g.toNat) page).1.bW].toArray) (fun w=>by kernel_rfl)) .nil)) fun ac S=>?_
 refine ao.one (i:=11) (by kernel_rfl) ?_
 refine id (S.cH 195 (Ct w bl.ar (ep 0).ar (S.rd (CA dQ.al)) (⟨(cq m g),page,(bK (el (el bl.I m.toNat).tables g.toNat) page).1.page,(bK (el (el bl.I m.toNat).tables g.toNat) page).1.bW⟩:a0) (show my (⟨(cq m g),page,(bK (el (el bl.I m.toNat).tables g.toNat) page).1.page,(bK (el (el bl.I m.toNat).tables g.toNat) page).1.bW⟩:a0) from⟨(yZ m g),dV,(fx.page (d:=(bK (el (el bl.I m.toNat).tables g.toNat) page).1) i96),(fx.bW (d:=(bK (el (el bl.I m.toNat).tables g.toNat) page).1) i96)⟩) (by(first|omega|(dsimp only;omega)))) fun ac w N wz wV S up oG d167=>?_)
 refine ao.next S up (by kernel_rfl) ?_
 have d168:=J.w d167 dQ.sub
 replace dQ:=dQ.up up
 clear up d167
 refine S.aI 12 [12] [] [(196,.v (aM ((aB a3 ae:af ad).1).b (((aB a3 ae:af ad).1).off+0*4+3)))] .nil fun ac S=>?_
 refine ao.one (i:=13) (by kernel_rfl) ?_
 refine id (S.qz (α:=ad) dQ (t:=35) (v:=ab (g_ bl.ar (⟨(cq m g),page,(bK (el (el bl.I m.toNat).tables g.toNat) page).1.page,(bK (el (el bl.I m.toNat).tables g.toNat) page).1.bW⟩:a0)).length wz.1) (k:=0) (j:=3) (off:=((aB a3 ae:af ad).1).off+0*4+3) (y:=(⟨bl.mem,bl.I,bl.buf,(g_ bl.ar (⟨(cq m g),page,(bK (el (el bl.I m.toNat).tables g.toNat) page).1.page,(bK (el (el bl.I m.toNat).tables g.toNat) page).1.bW⟩:a0))⟩:ad)) (q:=({(ep 0) with ar:=wz}:cK)) (Fy:=wV) (by kernel_rfl) (by kernel_rfl) (Nat.succ_pos 0) (by kernel_rfl) (by kernel_rfl) (Nat.le_of_ble_eq_true (by kernel_rfl)) (by kernel_rfl) (fun G ha j6=>⟨_,Li ha oG.own (fun b h ah=>d168 b (j6 b h) ah),fun _ h=>h⟩) d168 oG.sub oG.cU fun w N Fw S up A6 d172 L2 KJ=>?_)
 refine ao.last (by kernel_rfl) ?_
 obtain⟨kg,A7,ae5⟩:∃kg:Nat->cK,ai w0 aa _ _ Fw [(⟨bl.mem,bl.I,bl.buf,(g_ bl.ar (⟨(cq m g),page,(bK (el (el bl.I m.toNat).tables g.toNat) page).1.page,(bK (el (el bl.I m.toNat).tables g.toNat) page).1.bW⟩:a0))⟩:ad)] ((((aB a3 ae:af ad).1),kg):af ad)/\(kg 0).I.1=(ep 0).I.1:=⟨_,A6,rfl⟩
 clear up d172 dQ A6 L2 KJ
 refine ao.done (by kernel_rfl) ?_ _
 refine S.ex fun S=>?_
 refine S.go 2 .nil fun ac w β S=>?_
 refine dj ?_
 refine S.df (f:=6) 3 (by kernel_rfl) (by kernel_rfl) fun w S=>?_
 refine S.aI 0 [0] [] [(197,.v (GT.val (⟨bl.mem,bl.I,bl.buf,(g_ bl.ar (⟨(cq m g),page,(bK (el (el bl.I m.toNat).tables g.toNat) page).1.page,(bK (el (el bl.I m.toNat).tables g.toNat) page).1.bW⟩:a0))⟩:ad) (kg 0)))] (.cons (hU A7.al (t:=37) (k:=0) (Nat.succ_pos 0) rfl (by kernel_rfl) (by kernel_rfl)) .nil) fun ac S=>?_
 refine S.wL ⟨[(12,.p 1 0),(13,.v (R (bK (el (el bl.I m.toNat).tables g.toNat) page).1.page)),(14,.v (B true))],[GT.cells h aK,[ab bl.mem.length (kg 0).mem.1,ab bl.I.length (kg 0).I.1,ab bl.buf.length (kg 0).buf.1,ab (g_ bl.ar (⟨(cq m g),page,(bK (el (el bl.I m.toNat).tables g.toNat) page).1.page,(bK (el (el bl.I m.toNat).tables g.toNat) page).1.bW⟩:a0)).length (kg 0).ar.1]]⟩ 3 .nil fun ac w β S=>?_
 refine S.ex fun S=>?_
 refine S.aP 2 .nil [GT.val (⟨bl.mem,bl.I,bl.buf,(g_ bl.ar (⟨(cq m g),page,(bK (el (el bl.I m.toNat).tables g.toNat) page).1.page,(bK (el (el bl.I m.toNat).tables g.toNat) page).1.bW⟩:a0))⟩:ad) (kg 0),R (bK (el (el bl.I m.toNat).tables g.toNat) page).1.page,B true] fun ac w β S=>?_
 obtain⟨y6,wh,_,_⟩:=kq A7 (k:=0) (Nat.succ_pos 0)
 change ai w0 aa _ _ y6 (⟨bl.mem,bl.I,bl.buf,(g_ bl.ar (⟨(cq m g),page,(bK (el (el bl.I m.toNat).tables g.toNat) page).1.page,(bK (el (el bl.I m.toNat).tables g.toNat) page).1.bW⟩:a0))⟩:ad) (kg 0) at wh
 exact lq (p':=()) (p'':=()) S nu nu nu rfl rfl rfl wh (fx.page (d:=(bK (el (el bl.I m.toNat).tables g.toNat) page).1) i96) trivial
theorem nt {p:Prop} (h:p:=by clear S;(first|(rw [S1 (by assumption)];done)|(rw [S2 (by assumption) (by assumption)];done)|(rw [yw (by assumption) (by assumption) (by omega) (by omega) (by assumption) ot,S3 (by assumption)];first|done|rfl)|(rw [yw (by assumption) (by assumption) (by omega) (by omega) (by assumption) ot,S4 (by assumption) (by assumption)];first|done|rfl)|(rw [yw (by assumption) (by assumption) (by omega) (by omega) (by assumption) ot,S5 (by assumption) (by assumption) (by assumption) (by assumption)];first|done|rfl))):p:=h
theorem Ys (w0:World) (h:ad) (aK:cK) (ax:br w0 h aK) (m:Int) (g:Int) (page:Int) (dV:aq page) (need:Int) (io:Bool) (jh:io=false):Calls Tryz.prog 125 [GT.val h aK,R m,R g,R page,R need,B io].toArray w0 (qO aa w0 ((bk h m g page need io).1:ad) ((bk h m g page need io).2.1:Int) ((bk h m g page need io).2.2:Bool)):=by
 refine Calls.run aa Tryz.func125 ?_
 intro ac β S
 have I9:io=false:=by assumption
 subst I9
 have gO:h.mem.length<=4194304:=ag.le (a4.mem (d:=h) ax)
 have gP:h.I.length<=4194304:=ag.le (a4.I (d:=h) ax)
 have gM:h.buf.length<=4194304:=ag.le (a4.buf (d:=h) ax)
 have gN:h.ar.length<=4194304:=ag.le (a4.ar (d:=h) ax)
 have rn:=dV.b9;have rm:=dV.hi
 refine S.go 11 .nil fun ac w β S=>S.ct (r:=h) (d:=28) (hn w h aK (S.rd (S.arg ax))) fun ac w N ae aX S up au d4=>?_
 clear up d4
 refine S.go 5 .nil fun ac w β S=>?_
 refine S.w1 2 au fun β N a3 b7 S up ak d8=>?_
 clear up d8 au
 refine S.go 3 .nil fun ac w β S=>S.fk (r:=(aC h m).1) (r':=(aC h m).2) (d:=32) (Cs w h aK (S.rd (S.arg ax)) m) fun ac w N hg dH dy mY S up fa cJ d15 d16 d17=>?_
 replace ak:=ak.up up
 clear up d15
 clear d16
 refine S.go 10 .nil fun ac w β S=>?_
 refine S.r4 ⟨[(1,.v (R m)),(2,.v (R g)),(3,.v (R page)),(4,.v (R need)),(5,.v (B false)),(12,.p 1 0),(15,.v (aM (aB a3 ae:af ad).1.b ((aB a3 ae:af ad).1.off+0*4))),(16,.p 2 0),(57,.v (B ((((!(dg h))||(!(aC h m).2))||(!(aS g 0 (((aC h m).1.U.length:Int)-1))))||((need != 1)&&(need != 2)))))],[GT.cells h aK,c2 ad,GT.cells (aC h m).1 hg]⟩ ?_ ?_
 ·clear S;intro S
  refine S.bs 5 (.cons (aY fun w hw=>tn w h aK (cQ (S.arg ax) hw)) .nil) (!(dg h)) (fun ac w β j8 S=>?_) (fun ac w β j8 S=>?_)
  ·have iU:=cw j8
   exact S.e5 20 .nil fun ac w β S=>⟨rfl,_,by rw [j8];exact S.z⟩
  have tU:=cl j8
  have PG:=oA tU
  refine S.bs 4 .nil (!(aC h m).2) (fun ac w β fR S=>?_) (fun ac w β fR S=>?_)
  ·have z5:=cw fR
   exact S.e5 16 .nil fun ac w β S=>⟨rfl,_,by rw [j8,fR];exact S.z⟩
  have iV:=cl fR
  have tQ:=sH iV
  refine S.bs 8 (.cons (aY fun w hw=>gJ w g ((aC h m).1.U.length:Int) (by omega)) .nil) (!(aS g 0 (((aC h m).1.U.length:Int)-1))) (fun ac w β fo S=>?_) (fun ac w β fo S=>?_)
  ·have jv:=cw fo
   have sf:=dC jv
   exact S.e5 8 .nil fun ac w β S=>⟨rfl,_,by rw [j8,fR,fo];exact S.z⟩
  have sg:=cl fo
  have xQ:=cM sg
  refine S.a8 3 .nil (need != 1) (fun ac w β nk tR S=>?_) (fun ac w β nk tR S=>?_)
  ·exact S.e5 5 .nil fun ac w β S=>⟨rfl,_,by rw [j8,fR,fo,nk];exact S.z⟩
  exact S.e5 5 .nil fun ac w β S=>⟨rfl,_,by rw [j8,fR,fo,nk];exact S.z⟩
 clear S;intro ac w β S
 refine S.bs 1 .nil ((((!(dg h))||(!(aC h m).2))||(!(aS g 0 (((aC h m).1.U.length:Int)-1))))||((need != 1)&&(need != 2))) (fun ac w β nm S=>?_) (fun ac w β nm S=>?_)
 ·refine S.aP 10 (.cons (hU ak.al (t:=37) (k:=0) (Nat.succ_pos 0) rfl (by kernel_rfl) (by kernel_rfl)) .nil) [GT.val h ((aB a3 ae:af ad).2 0),R (-1),B false] fun ac w β S=>?_
  obtain⟨k8,eO,_,_⟩:=kq ak (k:=0) (Nat.succ_pos 0)
  change ai w0 aa _ _ k8 h ((aB a3 ae:af ad).2 0) at eO
  exact lq (p':=()) (p'':=()) S nt nt nt rfl rfl rfl eO (show aq (-1) from⟨by decide,by decide⟩) trivial
 obtain⟨rf,si⟩:=oL nm
 obtain⟨nQ,qa⟩:=oL rf
 obtain⟨rh,sj⟩:=oL nQ
 have lg:=cl rh
 have abL:=oA lg
 have pc:=cl sj
 have zY:=sH pc
 have xU:=cl qa
 have Df:=cM xU
 have PI:=Tu si
 refine S.bs 28 (.cons (cP (bn.U (d:=(aC h m).1) fa.al) g Tryz.underlying68) (.cons (dG (bn.U (d:=(aC h m).1) fa.al) 66 g.toNat 4 (ab (el (aC h m).1.U g.toNat).live.length (hg.U.2 g.toNat).live.1)) (.cons (aY fun w hw=>Gf w (el (aC h m).1.U g.toNat).live (hg.U.2 g.toNat).live (cQ (a5.live (d:=(el (aC h m).1.U g.toNat)) (ag.el (bn.U (d:=(aC h m).1) fa.al) g.toNat (by omega))) hw) page need) .nil))) (!(c6 (el (aC h m).1.U g.toNat).live page need).2) (fun ac w β ri S=>?_) (fun ac w β ri S=>?_)
 ·have Di:=cw ri
  refine S.aP 10 (.cons (hU ak.al (t:=37) (k:=0) (Nat.succ_pos 0) rfl (by kernel_rfl) (by kernel_rfl)) .nil) [GT.val h ((aB a3 ae:af ad).2 0),R (-1),B false] fun ac w β S=>?_
  obtain⟨lX,jA,_,_⟩:=kq ak (k:=0) (Nat.succ_pos 0)
  change ai w0 aa _ _ lX h ((aB a3 ae:af ad).2 0) at jA
  exact lq (p':=()) (p'':=()) S nt nt nt rfl rfl rfl jA (show aq (-1) from⟨by decide,by decide⟩) trivial
 have vF:=cl ri
 have zZ:=u0 vF
 refine S.go 10 .nil fun ac w β S=>?_
 refine m6 S (fun ac w=>∃(bl:ad) (ep:Nat->cK) (jT:aw) (u:_) (N:_) (β:_),(bl=m9 h m (c6 (el (aC h m).1.U g.toNat).live page need).1 need)/\(ep 0).I.1=ae.I.1/\aj Tryz.prog Tryz.f125.ntmps w0 aa u N β ⟨[(1,.v (R m)),(2,.v (R g)),(3,.v (R page)),(4,.v (R need)),(5,.v (B false)),(12,.p 1 0),(15,.v (aM ((aB a3 ae:af ad).1).b (((aB a3 ae:af ad).1).off+0*4))),(18,.v (R (c6 (el (aC h m).1.U g.toNat).live page need).1))],[GT.cells h aK,c2 ad]⟩ ac w/\ai w0 aa u N jT ([bl]) (((aB a3 ae:af ad).1,ep):af ad)) ?_ ?_
 ·clear S;intro S
  refine S.a8 0 .nil (need==2) (fun ac w β sl z0 S=>?_) (fun ac w β sl z0 S=>?_)
  ·obtain⟨B3,nw,_,F0⟩:=nN ak (fun _ o=>zT o (k:=m.toNat) (show m.toNat<h.I.length by omega))
   change ai w0 aa _ _ B3 (el h.I m.toNat).bj (((aB a3 ae:af ad).2 0).I.2 m.toNat).bj at nw
   have Kj:=ag.le nw.al
   have agZ:=nw.sub
   refine S.go 10 (.cons (g7 ak.al (t:=34) (k:=0) (j:=1) (v:=ab h.I.length ((aB a3 ae:af ad).2 0).I.1) (Nat.succ_pos 0) (by kernel_rfl) (by kernel_rfl)) (.cons (cP (di ak.al) m Tryz.underlying34) (.cons (dG (di ak.al) 67 m.toNat 2 (ab (el h.I m.toNat).bj.length (((aB a3 ae:af ad).2 0).I.2 m.toNat).bj.1)) (.cons (qN (bn.bj (d:=(el h.I m.toNat)) (ag.el (di ak.al) m.toNat (by omega))) (l:=(el h.I m.toNat).bj.length) (k:=(c6 (el (aC h m).1.U g.toNat).live page need).1.toNat) (i:=(c6 (el (aC h m).1.U g.toNat).live page need).1) rfl (by omega) (by omega) Tryz.underlying67 (by kernel_rfl)) .nil)))) fun ac w β S=>S.kV (α:=Bool) nw (t:=4) (k:=(c6 (el (aC h m).1.U g.toNat).live page need).1.toNat) (j:=0) (off:=(((aB a3 ae:af ad).2 0).I.2 m.toNat).bj.1.off+(c6 (el (aC h m).1.U g.toNat).live page need).1.toNat*1) (v:=B true) (y:=true) (q:=()) (fun _ _ _=>⟨aa,trivial,fun _ h=>False.elim h⟩) fun w N td wC S up h_ d74 BG sJ=>?_
   clear d74 nw
   obtain⟨wx,qo,AF⟩:=F0 _ _ _ _ _ aa up h_ BG (fun b _ h=>False.elim h) List.length_set sJ
   obtain⟨zi,Af⟩:∃z,z=h.I.set m.toNat {el h.I m.toNat with bj:=((el h.I m.toNat).bj.set (c6 (el (aC h m).1.U g.toNat).live page need).1.toNat true)}:=⟨_,rfl⟩
   have qp:ai w0 aa w N (Or b7 td) [(⟨h.mem,zi,h.buf,h.ar⟩:ad)] (((aB a3 ae:af ad).1,wx):af ad):=by rw [Af];exact qo
   obtain⟨af9,aaG⟩:=BL Af (show m.toNat<h.I.length by omega) List.length_set
   change (wx 0).I.1=((aB a3 ae:af ad).2 0).I.1 at AF
   clear up h_ sJ qo
   exact S.e5 1 .nil fun ac w β S=>⟨rfl,(⟨h.mem,zi,h.buf,h.ar⟩:ad),wx,(Or b7 td),_,_,_,(by clear S;first|exact CY (by assumption) (by assumption)|exact CX (by assumption)),AF,S.z,qp⟩
  exact S.e5 2 .nil fun ac w β S=>⟨rfl,h,(aB a3 ae:af ad).2,b7,_,_,_,(by clear S;first|exact CY (by assumption) (by assumption)|exact CX (by assumption)),rfl,S.z,ak⟩
 clear S ak fa cJ
 rintro ac w ⟨bl,ep,jT,u,N,β,ot,ae7,S,dQ⟩
 have bo:=vt ot (u0 (by assumption)).1
 refine S.ex fun S=>?_
 have i86:my (eQ bl.buf (cq m g) page).1:=(Pr (Cz dQ.al) (cq m g) page)
 refine S.go 42 (.cons (aY fun w hw=>Cx w m g) (.cons (g7 dQ.al (t:=35) (k:=0) (j:=2) (v:=ab bl.buf.length (ep 0).buf.1) (Nat.succ_pos 0) (by kernel_rfl) (by kernel_rfl)) (.cons (aY fun w hw=>N4 w bl.buf (ep 0).buf (cQ (Cz dQ.al) hw) (cq m g) page) .nil))) fun ac w β S=>?_
 refine S.r4 ⟨[(1,.v (R m)),(2,.v (R g)),(3,.v (R page)),(4,.v (R need)),(12,.p 1 0),(15,.v (aM ((aB a3 ae:af ad).1).b (((aB a3 ae:af ad).1).off+0*4))),(18,.v (R (c6 (el (aC h m).1.U g.toNat).live page need).1)),(20,.v (aM ((aB a3 ae:af ad).1).b (((aB a3 ae:af ad).1).off+0*4+2))),(21,.v (R (cq m g))),(22,.p 2 0),(105,.v (B ((eQ bl.buf (cq m g) page).2&&(eB (eQ bl.buf (cq m g) page).1.bW need))))],[GT.cells h aK,c2 ad,GT.cells (eQ bl.buf (cq m g) page).1 ()]⟩ ?_ ?_
 ·clear S;intro S
  refine S.bs 3 .nil (eQ bl.buf (cq m g) page).2 (fun ac w β vG S=>?_) (fun ac w β vG S=>?_)
  ·exact S.e5 6 (.cons (aY fun w hw=>tm w (eQ bl.buf (cq m g) page).1.bW need) .nil) fun ac w β S=>⟨rfl,_,by rw [vG];exact S.z⟩
  exact S.e5 6 .nil fun ac w β S=>⟨rfl,_,by rw [vG];exact S.z⟩
 clear S;intro ac w β S
 refine S.bs 1 .nil ((eQ bl.buf (cq m g) page).2&&(eB (eQ bl.buf (cq m g) page).1.bW need)) (fun ac w β Ab S=>?_) (fun ac w β Ab S=>?_)
 ·obtain⟨acY,HM⟩:=NF Ab
  have PM:=tB HM
  refine S.go 2 .nil fun ac w β S=>?_
  refine dj ?_
  refine S.df (f:=6) 3 (by kernel_rfl) (by kernel_rfl) fun w S=>?_
  refine S.aI 0 [0] [] [(106,.v (GT.val bl (ep 0)))] (.cons (hU dQ.al (t:=37) (k:=0) (Nat.succ_pos 0) rfl (by kernel_rfl) (by kernel_rfl)) .nil) fun ac S=>?_
  refine S.wL ⟨[(12,.p 1 0),(13,.v (R (eQ bl.buf (cq m g) page).1.host)),(14,.v (B true))],[GT.cells h aK,[ab bl.mem.length (ep 0).mem.1,ab bl.I.length (ep 0).I.1,ab bl.buf.length (ep 0).buf.1,ab bl.ar.length (ep 0).ar.1]]⟩ 3 .nil fun ac w β S=>?_
  refine S.ex fun S=>?_
  refine S.aP 2 .nil [GT.val bl (ep 0),R (eQ bl.buf (cq m g) page).1.host,B true] fun ac w β S=>?_
  obtain⟨wZ,nx,_,_⟩:=kq dQ (k:=0) (Nat.succ_pos 0)
  change ai w0 aa _ _ wZ bl (ep 0) at nx
  exact lq (p':=()) (p'':=()) S nt nt nt rfl rfl rfl nx (my.host (d:=(eQ bl.buf (cq m g) page).1) i86) trivial
 have i96:fx (bK (el (el bl.I m.toNat).tables g.toNat) page).1:=(Ce (ag.el (bn.tables (d:=(el bl.I m.toNat)) (ag.el (di dQ.al) m.toNat (by omega))) g.toNat (by omega)) page)
 refine S.go 26 (.cons (g7 dQ.al (t:=34) (k:=0) (j:=1) (v:=ab bl.I.length (ep 0).I.1) (Nat.succ_pos 0) (by kernel_rfl) (by kernel_rfl)) (.cons (cP (di dQ.al) m Tryz.underlying34) (.cons (dG (di dQ.al) 69 m.toNat 7 (ab (el bl.I m.toNat).tables.length ((ep 0).I.2 m.toNat).tables.1)) (.cons (cP (bn.tables (d:=(el bl.I m.toNat)) (ag.el (di dQ.al) m.toNat (by omega))) g Tryz.underlying69) (.cons (dR (bn.tables (d:=(el bl.I m.toNat)) (ag.el (di dQ.al) m.toNat (by omega))) 105 g.toNat) (.cons (aY fun w hw=>Co w (el (el bl.I m.toNat).tables g.toNat) (((ep 0).I.2 m.toNat).tables.2 g.toNat) (cQ (ag.el (bn.tables (d:=(el bl.I m.toNat)) (ag.el (di dQ.al) m.toNat (by omega))) g.toNat (by omega)) hw) page) .nil)))))) fun ac w β S=>?_
 refine S.r4 ⟨[(1,.v (R m)),(2,.v (R g)),(3,.v (R page)),(4,.v (R need)),(12,.p 1 0),(15,.v (aM ((aB a3 ae:af ad).1).b (((aB a3 ae:af ad).1).off+0*4))),(18,.v (R (c6 (el (aC h m).1.U g.toNat).live page need).1)),(20,.v (aM ((aB a3 ae:af ad).1).b (((aB a3 ae:af ad).1).off+0*4+2))),(21,.v (R (cq m g))),(24,.p 3 0),(136,.v (B (((!(bK (el (el bl.I m.toNat).tables g.toNat) page).2)||((bK (el (el bl.I m.toNat).tables g.toNat) page).1.page==(-1)))||(!(eB (bK (el (el bl.I m.toNat).tables g.toNat) page).1.bW need)))))],[GT.cells h aK,c2 ad,GT.cells (eQ bl.buf (cq m g) page).1 (),GT.cells (bK (el (el bl.I m.toNat).tables g.toNat) page).1 ()]⟩ ?_ ?_
 ·clear S;intro S
  refine S.bs 4 .nil (!(bK (el (el bl.I m.toNat).tables g.toNat) page).2) (fun ac w β np S=>?_) (fun ac w β np S=>?_)
  ·have ac0:=cw np
   exact S.e5 12 .nil fun ac w β S=>⟨rfl,_,by rw [np];exact S.z⟩
  have ac1:=cl np
  refine S.a8 5 .nil ((bK (el (el bl.I m.toNat).tables g.toNat) page).1.page==(-1)) (fun ac w β vB He S=>?_) (fun ac w β vB He S=>?_)
  ·exact S.e5 7 .nil fun ac w β S=>⟨rfl,_,by rw [np,vB];exact S.z⟩
  exact S.e5 7 (.cons (aY fun w hw=>tm w (bK (el (el bl.I m.toNat).tables g.toNat) page).1.bW need) .nil) fun ac w β S=>⟨rfl,_,by rw [np,vB];exact S.z⟩
 clear S;intro ac w β S
 refine S.bs 1 .nil (((!(bK (el (el bl.I m.toNat).tables g.toNat) page).2)||((bK (el (el bl.I m.toNat).tables g.toNat) page).1.page==(-1)))||(!(eB (bK (el (el bl.I m.toNat).tables g.toNat) page).1.bW need))) (fun ac w β z4 S=>?_) (fun ac w β z4 S=>?_)
 ·refine S.go 6 .nil fun ac w β S=>S.o0 (d:=140) dQ (Gh w bl (((aB a3 ae:af ad).1,ep):af ad) jT (S.hP dQ) (fun b hb=>(S.sep b (dQ.sub b hb)).1) m (c6 (el (aC h m).1.U g.toNat).live page need).1 need (by exact(vt ot (u0 (by assumption)).1).1)) fun ac w N fW e2 S up gE d107 Jj=>?_
  change (fW 0).I.1=(ep 0).I.1 at Jj
  clear up d107 dQ
  obtain⟨cx,Ag⟩:∃z,z=(gA bl m (c6 (el (aC h m).1.U g.toNat).live page need).1 need):=⟨_,rfl⟩
  have fV:ai w0 aa w N e2 [cx] ((((aB a3 ae:af ad).1),fW):af ad):=by rw [Ag];exact gE
  clear gE
  have Kc:=KC Ag (vt ot (u0 (by assumption)).1).1
  try dsimp only at Kc
  refine S.go 12 (.cons (g7 fV.al (t:=34) (k:=0) (j:=1) (v:=ab cx.I.length (fW 0).I.1) (Nat.succ_pos 0) (by kernel_rfl) (by kernel_rfl)) (.cons (cP (di fV.al) m Tryz.underlying34) .nil)) fun ac w β S=>?_
  refine dj ?_
  refine S.df (f:=28) 27 (by kernel_rfl) (by kernel_rfl) fun w S=>?_
  refine S.hm 3 [0,1,2,3,4,5,6,7,8,9,10,11,12,13,14,15,16,17,18,19,20,21,22,23,24] [] [(148,.v (ab (el cx.I m.toNat).tables.length ((fW 0).I.2 m.toNat).tables.1)),(149,.v (R g)),(156,.v (GT.val (el (el cx.I m.toNat).tables g.toNat) (((fW 0).I.2 m.toNat).tables.2 g.toNat))),(164,.v (ab (el (el cx.I m.toNat).U g.toNat).live.length (((fW 0).I.2 m.toNat).U.2 g.toNat).live.1)),(168,.v (ab (el cx.I m.toNat).outer.length ((fW 0).I.2 m.toNat).outer.1)),(169,.v (R page))] (.cons (dG (di fV.al) 69 m.toNat 7 (ab (el cx.I m.toNat).tables.length ((fW 0).I.2 m.toNat).tables.1)) (.cons (dG (di fV.al) 69 m.toNat 7 (ab (el cx.I m.toNat).tables.length ((fW 0).I.2 m.toNat).tables.1)) (.cons (cP (bn.tables (d:=(el cx.I m.toNat)) (ag.el (di fV.al) m.toNat (by omega))) g Tryz.underlying69) (.cons (dR (bn.tables (d:=(el cx.I m.toNat)) (ag.el (di fV.al) m.toNat (by omega))) 105 g.toNat) (.cons (dG (di fV.al) 68 m.toNat 3 (ab (el cx.I m.toNat).U.length ((fW 0).I.2 m.toNat).U.1)) (.cons (cP (bn.U (d:=(el cx.I m.toNat)) (ag.el (di fV.al) m.toNat (by omega))) g Tryz.underlying68) (.cons (dG (bn.U (d:=(el cx.I m.toNat)) (ag.el (di fV.al) m.toNat (by omega))) 66 g.toNat 4 (ab (el (el cx.I m.toNat).U g.toNat).live.length (((fW 0).I.2 m.toNat).U.2 g.toNat).live.1)) (.cons (dG (di fV.al) 66 m.toNat 0 (ab (el cx.I m.toNat).outer.length ((fW 0).I.2 m.toNat).outer.1)) .nil)))))))) fun ac S=>?_
  refine ao.one (i:=25) (by kernel_rfl) ?_
  refine id (S.cH 170 (N3 w (el (el cx.I m.toNat).tables g.toNat) (((fW 0).I.2 m.toNat).tables.2 g.toNat) (S.rd (ag.el (bn.tables (d:=(el cx.I m.toNat)) (ag.el (di fV.al) m.toNat (by omega))) g.toNat (by omega))) (el (el cx.I m.toNat).U g.toNat).live (((fW 0).I.2 m.toNat).U.2 g.toNat).live (S.rd (a5.live (d:=(el (el cx.I m.toNat).U g.toNat)) (ag.el (bn.U (d:=(el cx.I m.toNat)) (ag.el (di fV.al) m.toNat (by omega))) g.toNat (by omega)))) (el cx.I m.toNat).outer ((fW 0).I.2 m.toNat).outer (S.rd (bn.outer (d:=(el cx.I m.toNat)) (ag.el (di fV.al) m.toNat (by omega)))) page) fun ac w N aje Fs S up KR d115=>?_)
  refine ao.next S up (by kernel_rfl) ?_
  have d116:=J.w d115 fV.sub
  replace fV:=fV.up up
  clear up d115
  refine S.aI 26 [26] [] [(171,.v (aM ((fW 0).I.2 m.toNat).tables.1.b (((fW 0).I.2 m.toNat).tables.1.off+g.toNat*2)))] (.cons (cP (bn.tables (d:=(el cx.I m.toNat)) (ag.el (di fV.al) m.toNat (by omega))) g Tryz.underlying69) .nil) fun ac S=>?_
  refine ao.one (i:=27) (by kernel_rfl) ?_
  obtain⟨y5,nW,LZ,FY⟩:=nN fV (fun _ o=>zU o (k:=m.toNat) (show m.toNat<cx.I.length by omega))
  change ai w0 aa _ _ y5 (el cx.I m.toNat).tables ((fW 0).I.2 m.toNat).tables at nW
  have afR:=ag.le nW.al
  have agJ:=nW.sub
  refine id (S.n4 (α:=bO) nW (t:=105) (k:=g.toNat) (off:=((fW 0).I.2 m.toNat).tables.1.off+g.toNat*2) KR (J.symm (J.symm (J.part d116 LZ))) fun w N oV LD S up sM d126 L0 AU=>?_)
  refine ao.last (by kernel_rfl) ?_
  clear d126 nW
  obtain⟨lo,A3,oB⟩:=FY _ _ _ _ _ Fs up sM L0 d116 List.length_set AU
  obtain⟨c9,Ad⟩:∃z,z=cx.I.set m.toNat {el cx.I m.toNat with tables:=((el cx.I m.toNat).tables.set g.toNat (q3 (el (el cx.I m.toNat).tables g.toNat) (el (el cx.I m.toNat).U g.toNat).live (el cx.I m.toNat).outer page))}:=⟨_,rfl⟩
  have jg:ai w0 aa w N (Or e2 oV) [(⟨cx.mem,c9,cx.buf,cx.ar⟩:ad)] (((((aB a3 ae:af ad).1)),lo):af ad):=by rw [Ad];exact A3
  obtain⟨afS,aaB⟩:=E2 Ad (show m.toNat<cx.I.length by omega) List.length_set
  change (lo 0).I.1=(fW 0).I.1 at oB
  clear up sM AU A3
  refine ao.done (by kernel_rfl) ?_ _
  refine S.ex fun S=>?_
  have i138:fx (bK (el (el c9 m.toNat).tables g.toNat) page).1:=(Ce (ag.el (bn.tables (d:=(el c9 m.toNat)) (ag.el (gG oB (gY jg.al)) m.toNat (by omega))) g.toNat (by omega)) page)
  refine S.go 18 (.cons (dG (gG oB (gY jg.al)) 69 m.toNat 7 (ab (el c9 m.toNat).tables.length (((lo 0).I.2) m.toNat).tables.1)) (.cons (cP (bn.tables (d:=(el c9 m.toNat)) (ag.el (gG oB (gY jg.al)) m.toNat (by omega))) g Tryz.underlying69) (.cons (dR (bn.tables (d:=(el c9 m.toNat)) (ag.el (gG oB (gY jg.al)) m.toNat (by omega))) 105 g.toNat) (.cons (aY fun w hw=>Co w (el (el c9 m.toNat).tables g.toNat) ((((lo 0).I.2) m.toNat).tables.2 g.toNat) (cQ (ag.el (bn.tables (d:=(el c9 m.toNat)) (ag.el (gG oB (gY jg.al)) m.toNat (by omega))) g.toNat (by omega)) hw) page) .nil)))) fun ac w β S=>?_
  refine dj ?_
  refine S.df (f:=14) 13 (by kernel_rfl) (by kernel_rfl) fun w S=>?_
  refine S.hm 3 [0,1,2,3,4,5,6,7,8,9,10] [] [(184,.v (aM ((((aB a3 ae:af ad).1))).b (((((aB a3 ae:af ad).1))).off+0*4+2))),(187,.v (ab cx.buf.length (lo 0).buf.1)),(194,.v (GT.val (⟨(cq m g),page,(bK (el (el c9 m.toNat).tables g.toNat) page).1.page,(bK (el (el c9 m.toNat).tables g.toNat) page).1.bW⟩:a0) ()))] (.cons (g7 jg.al (t:=35) (k:=0) (j:=2) (v:=ab cx.buf.length (lo 0).buf.1) (Nat.succ_pos 0) (by kernel_rfl) (by kernel_rfl)) (.cons (dY (s:=Instr.build 177 [(0,R (cq m g)),(1,R page),(2,R (bK (el (el c9 m.toNat).tables g.toNat) page).1.page),(3,R (bK (el (el c9 m.toNat).tables g.toNat) page).1.bW)].toArray) (v:= .agg [R (cq m g),R page,R (bK (el (el c9 m.toNat).tables g.toNat) page).1.page,R (bK (el (el c9 m.toNat).tables g.toNat) page).1.bW].toArray) (fun w=>by kernel_rfl)) .nil)) fun ac S=>?_
  refine ao.one (i:=11) (by kernel_rfl) ?_
  refine id (S.cH 195 (Ct w cx.buf (lo 0).buf (S.rd (Oy jg.al)) (⟨(cq m g),page,(bK (el (el c9 m.toNat).tables g.toNat) page).1.page,(bK (el (el c9 m.toNat).tables g.toNat) page).1.bW⟩:a0) (show my (⟨(cq m g),page,(bK (el (el c9 m.toNat).tables g.toNat) page).1.page,(bK (el (el c9 m.toNat).tables g.toNat) page).1.bW⟩:a0) from⟨(yZ m g),dV,(fx.page (d:=(bK (el (el c9 m.toNat).tables g.toNat) page).1) i138),(fx.bW (d:=(bK (el (el c9 m.toNat).tables g.toNat) page).1) i138)⟩) (by(first|omega|(dsimp only;omega)))) fun ac w N wy BZ S up qm d142=>?_)
  refine ao.next S up (by kernel_rfl) ?_
  have d143:=J.w d142 jg.sub
  replace jg:=jg.up up
  clear up d142
  refine S.aI 12 [12] [] [(196,.v (aM ((((aB a3 ae:af ad).1))).b (((((aB a3 ae:af ad).1))).off+0*4+2)))] .nil fun ac S=>?_
  refine ao.one (i:=13) (by kernel_rfl) ?_
  refine id (S.qz (α:=ad) jg (t:=35) (v:=ab (g_ cx.buf (⟨(cq m g),page,(bK (el (el c9 m.toNat).tables g.toNat) page).1.page,(bK (el (el c9 m.toNat).tables g.toNat) page).1.bW⟩:a0)).length wy.1) (k:=0) (j:=2) (off:=((((aB a3 ae:af ad).1))).off+0*4+2) (y:=(⟨cx.mem,c9,(g_ cx.buf (⟨(cq m g),page,(bK (el (el c9 m.toNat).tables g.toNat) page).1.page,(bK (el (el c9 m.toNat).tables g.toNat) page).1.bW⟩:a0)),cx.ar⟩:ad)) (q:=({(lo 0) with buf:=wy}:cK)) (Fy:=BZ) (by kernel_rfl) (by kernel_rfl) (Nat.succ_pos 0) (by kernel_rfl) (by kernel_rfl) (Nat.le_of_ble_eq_true (by kernel_rfl)) (by kernel_rfl) (fun G ha j6=>⟨_,Lh ha qm.own (fun b h ah=>d143 b (j6 b h) ah),fun _ h=>h⟩) d143 qm.sub qm.cU fun w N wU S up A4 d147 L1 KI=>?_)
  refine ao.last (by kernel_rfl) ?_
  obtain⟨kf,wg,ae4⟩:∃kf:Nat->cK,ai w0 aa _ _ wU [(⟨cx.mem,c9,(g_ cx.buf (⟨(cq m g),page,(bK (el (el c9 m.toNat).tables g.toNat) page).1.page,(bK (el (el c9 m.toNat).tables g.toNat) page).1.bW⟩:a0)),cx.ar⟩:ad)] ((((((aB a3 ae:af ad).1))),kf):af ad)/\(kf 0).I.1=(lo 0).I.1:=⟨_,A4,rfl⟩
  clear up d147 jg A4 L1 KI
  refine ao.done (by kernel_rfl) ?_ _
  refine S.ex fun S=>?_
  refine S.go 2 .nil fun ac w β S=>?_
  refine dj ?_
  refine S.df (f:=6) 3 (by kernel_rfl) (by kernel_rfl) fun w S=>?_
  refine S.aI 0 [0] [] [(197,.v (GT.val (⟨cx.mem,c9,(g_ cx.buf (⟨(cq m g),page,(bK (el (el c9 m.toNat).tables g.toNat) page).1.page,(bK (el (el c9 m.toNat).tables g.toNat) page).1.bW⟩:a0)),cx.ar⟩:ad) (kf 0)))] (.cons (hU wg.al (t:=37) (k:=0) (Nat.succ_pos 0) rfl (by kernel_rfl) (by kernel_rfl)) .nil) fun ac S=>?_
  refine S.wL ⟨[(12,.p 1 0),(13,.v (R (bK (el (el c9 m.toNat).tables g.toNat) page).1.page)),(14,.v (B true))],[GT.cells h aK,[ab cx.mem.length (kf 0).mem.1,ab c9.length (kf 0).I.1,ab (g_ cx.buf (⟨(cq m g),page,(bK (el (el c9 m.toNat).tables g.toNat) page).1.page,(bK (el (el c9 m.toNat).tables g.toNat) page).1.bW⟩:a0)).length (kf 0).buf.1,ab cx.ar.length (kf 0).ar.1]]⟩ 3 .nil fun ac w β S=>?_
  refine S.ex fun S=>?_
  refine S.aP 2 .nil [GT.val (⟨cx.mem,c9,(g_ cx.buf (⟨(cq m g),page,(bK (el (el c9 m.toNat).tables g.toNat) page).1.page,(bK (el (el c9 m.toNat).tables g.toNat) page).1.bW⟩:a0)),cx.ar⟩:ad) (kf 0),R (bK (el (el c9 m.toNat).tables g.toNat) page).1.page,B true] fun ac w β S=>?_
  obtain⟨Fv,A5,_,_⟩:=kq wg (k:=0) (Nat.succ_pos 0)
  change ai w0 aa _ _ Fv (⟨cx.mem,c9,(g_ cx.buf (⟨(cq m g),page,(bK (el (el c9 m.toNat).tables g.toNat) page).1.page,(bK (el (el c9 m.toNat).tables g.toNat) page).1.bW⟩:a0)),cx.ar⟩:ad) (kf 0) at A5
  exact lq (p':=()) (p'':=()) S nt nt nt rfl rfl rfl A5 (fx.page (d:=(bK (el (el c9 m.toNat).tables g.toNat) page).1) i138) trivial
 obtain⟨Hv,Hw⟩:=oL z4
 obtain⟨Hx,Hy⟩:=oL Hv
 have Hz:=cl Hx
 have Hg:¬((bK (el (el bl.I m.toNat).tables g.toNat) page).1.page=(-1)):=ne_of_beq_false Hy
 have HA:=cl Hw
 have abq:=tB HA
 refine S.go 4 .nil fun ac w β S=>?_
 refine dj ?_
 refine S.df (f:=14) 13 (by kernel_rfl) (by kernel_rfl) fun w S=>?_
 refine S.hm 3 [0,1,2,3,4,5,6,7,8,9,10] [] [(184,.v (aM ((aB a3 ae:af ad).1).b (((aB a3 ae:af ad).1).off+0*4+2))),(187,.v (ab bl.buf.length (ep 0).buf.1)),(194,.v (GT.val (⟨(cq m g),page,(bK (el (el bl.I m.toNat).tables g.toNat) page).1.page,(bK (el (el bl.I m.toNat).tables g.toNat) page).1.bW⟩:a0) ()))] (.cons (g7 dQ.al (t:=35) (k:=0) (j:=2) (v:=ab bl.buf.length (ep 0).buf.1) (Nat.succ_pos 0) (by kernel_rfl) (by kernel_rfl)) (.cons (dY (s:=Instr.build 177 [(0,R (cq m g)),(1,R page),(2,R (bK (el (el bl.I m.toNat).tables g.toNat) page).1.page),(3,R (bK (el (el bl.I m.toNat).tables g.toNat) page).1.bW)].toArray) (v:= .agg [R (cq m g),R page,R (bK (el (el bl.I m.toNat).tables g.toNat) page).1.page,R (bK (el (el bl.I m.toNat).tables g.toNat) page).1.bW].toArray) (fun w=>by kernel_rfl)) .nil)) fun ac S=>?_
 refine ao.one (i:=11) (by kernel_rfl) ?_
 refine id (S.cH 195 (Ct w bl.buf (ep 0).buf (S.rd (Cz dQ.al)) (⟨(cq m g),page,(bK (el (el bl.I m.toNat).tables g.toNat) page).1.page,(bK (el (el bl.I m.toNat).tables g.toNat) page).1.bW⟩:a0) (show my (⟨(cq m g),page,(bK (el (el bl.I m.toNat).tables g.toNat) page).1.page,(bK (el (el bl.I m.toNat).tables g.toNat) page).1.bW⟩:a0) from⟨(yZ m g),dV,(fx.page (d:=(bK (el (el bl.I m.toNat).tables g.toNat) page).1) i96),(fx.bW (d:=(bK (el (el bl.I m.toNat).tables g.toNat) page).1) i96)⟩) (by(first|omega|(dsimp only;omega)))) fun ac w N wz wV S up oG d167=>?_)
 refine ao.next S up (by kernel_rfl) ?_
 have d168:=J.w d167 dQ.sub
 replace dQ:=dQ.up up
 clear up d167
 refine S.aI 12 [12] [] [(196,.v (aM ((aB a3 ae:af ad).1).b (((aB a3 ae:af ad).1).off+0*4+2)))] .nil fun ac S=>?_
 refine ao.one (i:=13) (by kernel_rfl) ?_
 refine id (S.qz (α:=ad) dQ (t:=35) (v:=ab (g_ bl.buf (⟨(cq m g),page,(bK (el (el bl.I m.toNat).tables g.toNat) page).1.page,(bK (el (el bl.I m.toNat).tables g.toNat) page).1.bW⟩:a0)).length wz.1) (k:=0) (j:=2) (off:=((aB a3 ae:af ad).1).off+0*4+2) (y:=(⟨bl.mem,bl.I,(g_ bl.buf (⟨(cq m g),page,(bK (el (el bl.I m.toNat).tables g.toNat) page).1.page,(bK (el (el bl.I m.toNat).tables g.toNat) page).1.bW⟩:a0)),bl.ar⟩:ad)) (q:=({(ep 0) with buf:=wz}:cK)) (Fy:=wV) (by kernel_rfl) (by kernel_rfl) (Nat.succ_pos 0) (by kernel_rfl) (by kernel_rfl) (Nat.le_of_ble_eq_true (by kernel_rfl)) (by kernel_rfl) (fun G ha j6=>⟨_,Lh ha oG.own (fun b h ah=>d168 b (j6 b h) ah),fun _ h=>h⟩) d168 oG.sub oG.cU fun w N Fw S up A6 d172 L2 KJ=>?_)
 refine ao.last (by kernel_rfl) ?_
 obtain⟨kg,A7,ae5⟩:∃kg:Nat->cK,ai w0 aa _ _ Fw [(⟨bl.mem,bl.I,(g_ bl.buf (⟨(cq m g),page,(bK (el (el bl.I m.toNat).tables g.toNat) page).1.page,(bK (el (el bl.I m.toNat).tables g.toNat) page).1.bW⟩:a0)),bl.ar⟩:ad)] ((((aB a3 ae:af ad).1),kg):af ad)/\(kg 0).I.1=(ep 0).I.1:=⟨_,A6,rfl⟩
 clear up d172 dQ A6 L2 KJ
 refine ao.done (by kernel_rfl) ?_ _
 refine S.ex fun S=>?_
 refine S.go 2 .nil fun ac w β S=>?_
 refine dj ?_
 refine S.df (f:=6) 3 (by kernel_rfl) (by kernel_rfl) fun w S=>?_
 refine S.aI 0 [0] [] [(197,.v (GT.val (⟨bl.mem,bl.I,(g_ bl.buf (⟨(cq m g),page,(bK (el (el bl.I m.toNat).tables g.toNat) page).1.page,(bK (el (el bl.I m.toNat).tables g.toNat) page).1.bW⟩:a0)),bl.ar⟩:ad) (kg 0)))] (.cons (hU A7.al (t:=37) (k:=0) (Nat.succ_pos 0) rfl (by kernel_rfl) (by kernel_rfl)) .nil) fun ac S=>?_
 refine S.wL ⟨[(12,.p 1 0),(13,.v (R (bK (el (el bl.I m.toNat).tables g.toNat) page).1.page)),(14,.v (B true))],[GT.cells h aK,[ab bl.mem.length (kg 0).mem.1,ab bl.I.length (kg 0).I.1,ab (g_ bl.buf (⟨(cq m g),page,(bK (el (el bl.I m.toNat).tables g.toNat) page).1.page,(bK (el (el bl.I m.toNat).tables g.toNat) page).1.bW⟩:a0)).length (kg 0).buf.1,ab bl.ar.length (kg 0).ar.1]]⟩ 3 .nil fun ac w β S=>?_
 refine S.ex fun S=>?_
 refine S.aP 2 .nil [GT.val (⟨bl.mem,bl.I,(g_ bl.buf (⟨(cq m g),page,(bK (el (el bl.I m.toNat).tables g.toNat) page).1.page,(bK (el (el bl.I m.toNat).tables g.toNat) page).1.bW⟩:a0)),bl.ar⟩:ad) (kg 0),R (bK (el (el bl.I m.toNat).tables g.toNat) page).1.page,B true] fun ac w β S=>?_
 obtain⟨y6,wh,_,_⟩:=kq A7 (k:=0) (Nat.succ_pos 0)
 change ai w0 aa _ _ y6 (⟨bl.mem,bl.I,(g_ bl.buf (⟨(cq m g),page,(bK (el (el bl.I m.toNat).tables g.toNat) page).1.page,(bK (el (el bl.I m.toNat).tables g.toNat) page).1.bW⟩:a0)),bl.ar⟩:ad) (kg 0) at wh
 exact lq (p':=()) (p'':=()) S nt nt nt rfl rfl rfl wh (fx.page (d:=(bK (el (el bl.I m.toNat).tables g.toNat) page).1) i96) trivial
theorem N_ (w0:World) (h:ad) (aK:cK) (ax:br w0 h aK) (m:Int) (g:Int) (page:Int) (dV:aq page) (need:Int):Calls Tryz.prog 64 [GT.val h aK,R m,R g,R page,R need].toArray w0 (qO aa w0 ((bk h m g page need false).1:ad) ((bk h m g page need false).2.1:Int) ((bk h m g page need false).2.2:Bool)):=by
 refine Calls.run aa Tryz.func64 ?_
 intro ac β S
 have gO:h.mem.length<=4194304:=ag.le (a4.mem (d:=h) ax)
 have gP:h.I.length<=4194304:=ag.le (a4.I (d:=h) ax)
 have gM:h.buf.length<=4194304:=ag.le (a4.buf (d:=h) ax)
 have gN:h.ar.length<=4194304:=ag.le (a4.ar (d:=h) ax)
 have rn:=dV.b9;have rm:=dV.hi
 refine S.go 15 .nil fun ac w β S=>S.zb (r:=(bk h m g page need false).1) (r':=(bk h m g page need false).2.1) (r'':=(bk h m g page need false).2.2) (d:=18) (Ys w h aK (S.rd (S.arg ax)) m g page dV need false (by rfl)) fun ac w N ae aX S up au d4 i5=>?_
 clear up d4
 refine S.aP 9 .nil [GT.val (bk h m g page need false).1 ae,R (bk h m g page need false).2.1,B (bk h m g page need false).2.2] fun ac w β S=>?_
 exact lq (p':=()) (p'':=()) S (show(bk h m g page need false).1=(bk h m g page need false).1 by clear S;rfl) (show(bk h m g page need false).2.1=(bk h m g page need false).2.1 by clear S;rfl) (show(bk h m g page need false).2.2=(bk h m g page need false).2.2 by clear S;rfl) rfl rfl rfl au i5 trivial
theorem N2 (w0:World) (page:Int) (dV:aq page) (write:Bool):Calls Tryz.prog 68 [R page,B write].toArray w0 (fun e w'=>e= .returned (GT.val (kB page write) ())/\bX aa w0 w'):=by
 refine Calls.run aa Tryz.func68 ?_
 intro ac β S
 have rn:=dV.b9;have rm:=dV.hi
 exact S.bb 14 (.cons (dY (s:=Instr.build 100 [(0,R 1),(1,R page),(2,B write)].toArray) (v:= .agg [R 1,R page,B write,R 0].toArray) (fun w=>by kernel_rfl)) .nil) [GT.val (⟨1,page,write,0⟩:dI) ()] (mq (p:=()) (by clear S;rfl))
theorem vh (w0:World) (g:az) (cv:dB) (aJ:br w0 g cv) (e:dI) (he:iu e):Calls Tryz.prog 67 [GT.val g cv,GT.val e ()].toArray w0 (dZ aa w0 (({g with exit:=e}:az):az)):=by
 refine Calls.run aa Tryz.func67 ?_
 intro ac β S
 have nT:g.prog.length<=4194304:=ag.le (a5.prog (d:=g) aJ)
 have nV:g.written.length<=4194304:=ag.le (a5.written (d:=g) aJ)
 have nS:g.live.length<=4194304:=ag.le (a5.live (d:=g) aJ)
 have nU:g.seen.length<=4194304:=ag.le (a5.seen (d:=g) aJ)
 refine S.go 10 .nil fun ac w β S=>S.ct (r:=g) (d:=7) (tr w g cv (S.rd (S.arg aJ))) fun ac w N ae aX S up au d4=>?_
 clear up d4
 have i8:aq g.acc:=a5.acc (d:=g) au.al
 have i9:aq g.aN:=a5.aN (d:=g) au.al
 have i16:hC g.bH:=a5.bH (d:=g) au.al
 have i17:aq g.av:=a5.av (d:=g) au.al
 obtain⟨de,jS,fP,kT,a1,ft,cJ,en,_,_,_,_,d22,d23,d24,d25,d26,d27⟩:=qB au
 refine S.aP 18 .nil [GT.val (⟨g.prog,g.acc,g.aN,g.written,g.live,g.bH,g.av,e,g.halted,g.seen⟩:az) (⟨ae.prog,ae.written,ae.live,ae.seen⟩:dB)] fun ac w β S=>?_
 have eo:=ke (x:=(⟨g.prog,g.acc,g.aN,g.written,g.live,g.bH,g.av,e,g.halted,g.seen⟩:az)) (p:=(⟨ae.prog,ae.written,ae.live,ae.seen⟩:dB)) a1 ft cJ en d22 d23 d24 d25 d26 d27 i8 i9 i16 i17 he
 exact cT S (show({g with exit:=e}:az)=(⟨g.prog,g.acc,g.aN,g.written,g.live,g.bH,g.av,e,g.halted,g.seen⟩:az) by clear S;rfl) rfl eo
theorem Sj {p:Prop} (h:p:=by clear S;(first|(unfold dK;rw [if_pos (by omega)];done)|(unfold dK;rw [if_pos (by omega)];first|rfl|(simp;done))|(unfold dK;rw [if_neg (by omega)];done)|(unfold dK;rw [if_neg (by omega)];first|rfl|(simp;done)))):p:=h
theorem xd (w0:World) (addr:Int) (kr:aq addr):Calls Tryz.prog 70 [R addr].toArray w0 (fun e w'=>e= .returned (R (dK addr))/\bX aa w0 w'):=by
 refine Calls.run aa Tryz.func70 ?_
 intro ac β S
 have Ja:=kr.b9;have I5:=kr.hi
 refine S.a8 12 .nil (decide (addr<0)) (fun ac w β h1 bM S=>?_) (fun ac w β h1 bM S=>?_)
 ·exact S.bb 7 .nil [R (-1)] (g3 Sj)
 exact S.bb 11 (.cons (rU (x:=addr) (y:=4) (by decide)) .nil) [R (Int.tmod addr 4)] (g3 Sj)
theorem D3 {p:Prop} (h:p:=by clear S;(unfold gm;(repeat' split)<;>first|rfl|(simp;done)|(exfalso;omega)|(exfalso;simp_all;done)|(exfalso;simp_all;omega))):p:=h
theorem zt (w0:World) (m:List (List Int)) (pm:af (List Int)) (hm:br w0 m pm) (page:Int) (cell:Int) (v:Int) (bu:aq v):Calls Tryz.prog 69 [ab m.length pm.1,R page,R cell,R v].toArray w0 (dZ aa w0 (gm m page cell v:List (List Int))):=by
 refine Calls.run aa Tryz.func69 ?_
 intro ac β S
 have Aw:m.length<=4194304:=ag.le hm
 have yc:=bu.b9;have x6:=bu.hi
 refine S.go 8 .nil fun ac w β S=>S.ct (r:=m) (d:=11) (o3 w m pm (S.rd (S.arg hm))) fun ac w N ae aX S up au d4=>?_
 clear up d4
 refine S.bs 11 (.cons (aY fun w hw=>gJ w page (m.length:Int) (by omega)) .nil) (aS page 0 ((m.length:Int)-1)) (fun ac w β cf S=>?_) (fun ac w β cf S=>?_)
 ·have gn:=cM cf
  have W9:(el m page.toNat).length<=4194304:=ag.le (ag.el (S.arg hm) page.toNat (by omega))
  refine S.bs 9 (.cons (cP (S.arg hm) page Tryz.underlying33) (.cons (cn (S.arg hm) 28 page.toNat) (.cons (aY fun w hw=>gJ w cell ((el m page.toNat).length:Int) (by omega)) .nil))) (aS cell 0 (((el m page.toNat).length:Int)-1)) (fun ac w β e_ S=>?_) (fun ac w β e_ S=>?_)
  ·have l_:=cM e_
   refine S.bs 5 (.cons (aY fun w hw=>fU w v 0 99) .nil) (aS v 0 99) (fun ac w β dq S=>?_) (fun ac w β dq S=>?_)
   ·have fM:=cM dq
    obtain⟨mY,fa,_,W0⟩:=kq au (k:=page.toNat) (show page.toNat<m.length by omega)
    have Kd:=ag.le fa.al
    have Em:=fa.sub
    refine S.go 9 (.cons (cP au.al page Tryz.underlying33) (.cons (cn au.al 28 page.toNat) (.cons (cP (ag.el au.al page.toNat (by omega)) cell Tryz.underlying28) .nil))) fun ac w β S=>S.kV (α:=Int) fa (t:=3) (k:=cell.toNat) (j:=0) (off:=(ae.2 page.toNat).1.off+cell.toNat*1) (v:=R v) (y:=v) (q:=()) (fun _ _ _=>⟨aa,bu,fun _ h=>False.elim h⟩) fun w N kT sX S up gR d21 UG AV=>?_
    clear d21 fa
    obtain⟨arA,eI,anB⟩:=W0 _ _ _ _ _ aa up gR UG (fun b _ h=>False.elim h) (by show [ab _ _]=[ab _ _];rw [List.length_set]) (fun b h=>AV b (Em b h))
    clear up gR AV
    have Kg:(m.set page.toNat ((el m page.toNat).set cell.toNat v)).length=m.length:=List.length_set
    refine S.aP 9 .nil [ab m.length ae.1] fun ac w β S=>?_
    exact cT S D3 (by rw [show m.length=(m.set page.toNat ((el m page.toNat).set cell.toNat v)).length from(by omega)];rfl) eI
   have xP:=dC dq
   refine S.aP 10 .nil [ab m.length ae.1] fun ac w β S=>?_
   exact cT S D3 rfl au
  have p_:=dC e_
  refine S.aP 15 .nil [ab m.length ae.1] fun ac w β S=>?_
  exact cT S D3 rfl au
 have sf:=dC cf
 refine S.aP 24 .nil [ab m.length ae.1] fun ac w β S=>?_
 exact cT S D3 rfl au
theorem Sr {p:Prop} (h:p:=by clear S;(unfold cj;first|(rw [if_pos (by omega)];done)|(rw [if_neg (by omega)];done))):p:=h
theorem tp (w0:World) (g:az) (cv:dB) (aJ:br w0 g cv):Calls Tryz.prog 127 [GT.val g cv].toArray w0 (dZ aa w0 (cj g:az)):=by
 refine Calls.run aa Tryz.func127 ?_
 intro ac β S
 have RP:=a5.aN (d:=g) aJ
 have hpl:=RP.b9
 have aqd:=RP.hi
 have nT:g.prog.length<=4194304:=ag.le (a5.prog (d:=g) aJ)
 have nV:g.written.length<=4194304:=ag.le (a5.written (d:=g) aJ)
 have nS:g.live.length<=4194304:=ag.le (a5.live (d:=g) aJ)
 have nU:g.seen.length<=4194304:=ag.le (a5.seen (d:=g) aJ)
 refine S.go 9 .nil fun ac w β S=>S.ct (r:=g) (d:=5) (tr w g cv (S.rd (S.arg aJ))) fun ac w N ae aX S up au d4=>?_
 clear up d4
 have i8:aq g.acc:=a5.acc (d:=g) au.al
 have i16:hC g.bH:=a5.bH (d:=g) au.al
 have i17:aq g.av:=a5.av (d:=g) au.al
 have i18:iu g.exit:=a5.exit (d:=g) au.al
 obtain⟨de,jS,fP,kT,a1,ft,cJ,en,_,_,_,_,d22,d23,d24,d25,d26,d27⟩:=qB au
 refine S.a8 12 .nil (decide (g.aN>=12)) (fun ac w β fo p_ S=>?_) (fun ac w β fo p_ S=>?_)
 ·refine S.aP 13 .nil [GT.val (⟨g.prog,g.acc,12,g.written,g.live,g.bH,g.av,g.exit,g.halted,g.seen⟩:az) (⟨ae.prog,ae.written,ae.live,ae.seen⟩:dB)] fun ac w β S=>?_
  have fh:=ke (x:=(⟨g.prog,g.acc,12,g.written,g.live,g.bH,g.av,g.exit,g.halted,g.seen⟩:az)) (p:=(⟨ae.prog,ae.written,ae.live,ae.seen⟩:dB)) a1 ft cJ en d22 d23 d24 d25 d26 d27 i8 (show aq 12 from⟨by decide,by decide⟩) i16 i17 i18
  exact cT S Sr rfl fh
 refine S.aP 16 (.cons (cO g.aN 1) .nil) [GT.val (⟨g.prog,g.acc,(g.aN+1),g.written,g.live,g.bH,g.av,g.exit,g.halted,g.seen⟩:az) (⟨ae.prog,ae.written,ae.live,ae.seen⟩:dB)] fun ac w β S=>?_
 have fN:=ke (x:=(⟨g.prog,g.acc,(g.aN+1),g.written,g.live,g.bH,g.av,g.exit,g.halted,g.seen⟩:az)) (p:=(⟨ae.prog,ae.written,ae.live,ae.seen⟩:dB)) a1 ft cJ en d22 d23 d24 d25 d26 d27 i8 (show aq (g.aN+1) from⟨by omega,by omega⟩) i16 i17 i18
 exact cT S Sr rfl fN
theorem Oe (w0:World) (g:az) (cv:dB) (aJ:br w0 g cv):Calls Tryz.prog 71 [GT.val g cv].toArray w0 (dZ aa w0 (cj g:az)):=by
 refine Calls.run aa Tryz.func71 ?_
 intro ac β S
 have nT:g.prog.length<=4194304:=ag.le (a5.prog (d:=g) aJ)
 have nV:g.written.length<=4194304:=ag.le (a5.written (d:=g) aJ)
 have nS:g.live.length<=4194304:=ag.le (a5.live (d:=g) aJ)
 have nU:g.seen.length<=4194304:=ag.le (a5.seen (d:=g) aJ)
 refine S.go 9 .nil fun ac w β S=>S.ct (r:=cj g) (d:=4) (tp w g cv (S.rd (S.arg aJ))) fun ac w N ae aX S up au d4=>?_
 clear up d4
 refine S.aP 4 .nil [GT.val (cj g) ae] fun ac w β S=>?_
 exact cT S (show cj g=(cj g) by clear S;rfl) rfl au
theorem JU {p:Prop} (h:p:=by clear S;(first|(unfold gZ;rw [if_pos (by omega)];done)|(unfold gZ;rw [if_pos (by omega)];first|rfl|(simp;done))|(unfold gZ;rw [if_neg (by omega)];done)|(unfold gZ;rw [if_neg (by omega)];first|rfl|(simp;done)))):p:=h
theorem F6 (w0:World) (m:List (List Int)) (pm:af (List Int)) (hm:br w0 m pm) (page:Int) (cell:Int):Calls Tryz.prog 73 [ab m.length pm.1,R page,R cell].toArray w0 (fun e w'=>e= .returned (R (gZ m page cell))/\bX aa w0 w'):=by
 refine Calls.run aa Tryz.func73 ?_
 intro ac β S
 have Aw:m.length<=4194304:=ag.le hm
 refine S.bs 14 (.cons (aY fun w hw=>gJ w page (m.length:Int) (by omega)) .nil) (!(aS page 0 ((m.length:Int)-1))) (fun ac w β h1 S=>?_) (fun ac w β h1 S=>?_)
 ·have ah:=cw h1
  have c3:=dC ah
  exact S.bb 18 .nil [R 0] (g3 JU)
 have b2:=cl h1
 have gb:=cM b2
 have FZ:(el m page.toNat).length<=4194304:=ag.le (ag.el (S.arg hm) page.toNat (by omega))
 refine S.bs 11 (.cons (cP (S.arg hm) page Tryz.underlying33) (.cons (cn (S.arg hm) 28 page.toNat) (.cons (aY fun w hw=>gJ w cell ((el m page.toNat).length:Int) (by omega)) .nil))) (!(aS cell 0 (((el m page.toNat).length:Int)-1))) (fun ac w β eH S=>?_) (fun ac w β eH S=>?_)
 ·have e_:=cw eH
  have l_:=dC e_
  exact S.bb 7 .nil [R 0] (g3 JU)
 have dq:=cl eH
 have fM:=cM dq
 exact S.bb 16 (.cons (cP (S.arg hm) page Tryz.underlying33) (.cons (cn (S.arg hm) 28 page.toNat) (.cons (cP (ag.el (S.arg hm) page.toNat (by omega)) cell Tryz.underlying28) (.cons (cn (ag.el (S.arg hm) page.toNat (by omega)) 3 cell.toNat) .nil)))) [R (el (el m page.toNat) cell.toNat)] (g3 JU)
theorem Su {p:Prop} (h:p:=by clear S;(first|(unfold mO;rw [if_pos (by omega)];done)|(unfold mO;rw [if_pos (by omega)];first|rfl|(simp;done))|(unfold mO;rw [if_neg (by omega)];done)|(unfold mO;rw [if_neg (by omega)];first|rfl|(simp;done)))):p:=h
theorem Oc (w0:World) (g:az) (cv:dB) (aJ:br w0 g cv) (n:Int) (bc:aq n):Calls Tryz.prog 128 [GT.val g cv,R n].toArray w0 (dZ aa w0 (mO g n:az)):=by
 refine Calls.run aa Tryz.func128 ?_
 intro ac β S
 have nT:g.prog.length<=4194304:=ag.le (a5.prog (d:=g) aJ)
 have nV:g.written.length<=4194304:=ag.le (a5.written (d:=g) aJ)
 have nS:g.live.length<=4194304:=ag.le (a5.live (d:=g) aJ)
 have nU:g.seen.length<=4194304:=ag.le (a5.seen (d:=g) aJ)
 have yb:=bc.b9;have x5:=bc.hi
 refine S.go 9 .nil fun ac w β S=>S.ct (r:=g) (d:=7) (tr w g cv (S.rd (S.arg aJ))) fun ac w N ae aX S up au d4=>?_
 clear up d4
 have i8:aq g.acc:=a5.acc (d:=g) au.al
 have i9:aq g.aN:=a5.aN (d:=g) au.al
 have i16:hC g.bH:=a5.bH (d:=g) au.al
 have i17:aq g.av:=a5.av (d:=g) au.al
 have i18:iu g.exit:=a5.exit (d:=g) au.al
 obtain⟨de,jS,fP,kT,a1,ft,cJ,en,_,_,_,_,d22,d23,d24,d25,d26,d27⟩:=qB au
 refine S.a8 13 .nil (decide ((g.seen.length:Int)<40)) (fun ac w β fo p_ S=>?_) (fun ac w β fo p_ S=>?_)
 ·refine S.go 5 .nil fun ac w β S=>S.hB (α:=Int) (x:=n) (p:=()) (F:=aa) bc (fun b h=>False.elim h) (fun b h=>False.elim h) (d:=15) fun ac w N fI fZ S up eV d33=>?_
  replace a1:=a1.up up
  replace ft:=ft.up up
  replace cJ:=cJ.up up
  replace en:=en.up up
  clear up d33
  refine S.kj (α:=Int) en eV.al (fun _ _ h=>h) (by':=8) (d:=16) (lx:=g.seen.length) (ly:=1) rfl rfl (show _<=4194304 by simp only [List.length_append,List.length_cons,List.length_nil];omega) fun ac w N n1 qK S up ln d41=>?_
  have d42:=d41 _ d24 a1.sub
  have d43:=d41 _ d26 ft.sub
  have d44:=d41 _ d27 cJ.sub
  replace a1:=a1.bp d24 up
  replace ft:=ft.bp d26 up
  replace cJ:=cJ.bp d27 up
  clear up d41
  refine S.aP 11 .nil [GT.val (⟨g.prog,g.acc,g.aN,g.written,g.live,g.bH,g.av,g.exit,g.halted,(g.seen++[n])⟩:az) (⟨ae.prog,ae.written,ae.live,n1⟩:dB)] fun ac w β S=>?_
  have jz:=ke (x:=(⟨g.prog,g.acc,g.aN,g.written,g.live,g.bH,g.av,g.exit,g.halted,(g.seen++[n])⟩:az)) (p:=(⟨ae.prog,ae.written,ae.live,n1⟩:dB)) a1 ft cJ ln d22 d23 d42 d25 d43 d44 i8 i9 i16 i17 i18
  exact cT S Su rfl jz
 refine S.aP 10 .nil [GT.val g ae] fun ac w β S=>?_
 have sN:=ke (x:=g) (p:=ae) a1 ft cJ en d22 d23 d24 d25 d26 d27 i8 i9 i16 i17 i18
 exact cT S Su rfl sN
theorem N9 (w0:World) (g:az) (cv:dB) (aJ:br w0 g cv) (v:Int) (bu:aq v):Calls Tryz.prog 72 [GT.val g cv,R v].toArray w0 (dZ aa w0 (k0 g v:az)):=by
 refine Calls.run aa Tryz.func72 ?_
 intro ac β S
 have nT:g.prog.length<=4194304:=ag.le (a5.prog (d:=g) aJ)
 have nV:g.written.length<=4194304:=ag.le (a5.written (d:=g) aJ)
 have nS:g.live.length<=4194304:=ag.le (a5.live (d:=g) aJ)
 have nU:g.seen.length<=4194304:=ag.le (a5.seen (d:=g) aJ)
 have yc:=bu.b9;have x6:=bu.hi
 refine S.go 17 .nil fun ac w β S=>S.ct (r:=mO (⟨g.prog,v,g.aN,g.written,g.live,g.bH,g.av,g.exit,g.halted,g.seen⟩:az) v) (d:=9) (Oc w (⟨g.prog,v,g.aN,g.written,g.live,g.bH,g.av,g.exit,g.halted,g.seen⟩:az) (⟨cv.prog,cv.written,cv.live,cv.seen⟩:dB) (S.rd (show GT.rd bz _ _ (⟨g.prog,v,g.aN,g.written,g.live,g.bH,g.av,g.exit,g.halted,g.seen⟩:az) (⟨cv.prog,cv.written,cv.live,cv.seen⟩:dB) from⟨(a5.prog (p:=cv) (d:=g) (S.arg aJ)),bu,(a5.aN (d:=g) (S.arg aJ)),(a5.written (p:=cv) (d:=g) (S.arg aJ)),(a5.live (p:=cv) (d:=g) (S.arg aJ)),(a5.bH (d:=g) (S.arg aJ)),(a5.av (d:=g) (S.arg aJ)),(a5.exit (d:=g) (S.arg aJ)),(a5.seen (p:=cv) (d:=g) (S.arg aJ))⟩)) v bu) fun ac w N ae aX S up au d4=>?_
 clear up d4
 refine S.ct (r:=cj (mO (⟨g.prog,v,g.aN,g.written,g.live,g.bH,g.av,g.exit,g.halted,g.seen⟩:az) v)) (d:=10) (tp w (mO (⟨g.prog,v,g.aN,g.written,g.live,g.bH,g.av,g.exit,g.halted,g.seen⟩:az) v) ae (S.rd au.al)) fun ac w N bZ b7 S up ak d8=>?_
 clear up d8
 refine S.aP 4 .nil [GT.val (cj (mO (⟨g.prog,v,g.aN,g.written,g.live,g.bH,g.av,g.exit,g.halted,g.seen⟩:az) v)) bZ] fun ac w β S=>?_
 exact cT S (show k0 g v=(cj (mO (⟨g.prog,v,g.aN,g.written,g.live,g.bH,g.av,g.exit,g.halted,g.seen⟩:az) v)) by clear S;rfl) rfl ak
theorem SB {p:Prop} (h:p:=by clear S;(unfold lF;(repeat' split)<;>first|rfl|(exfalso;omega)|(exfalso;simp_all;done)|(exfalso;simp_all;omega)|(simp_all;done))):p:=h
theorem On (w0:World) (want:Int):Calls Tryz.prog 130 [R want].toArray w0 (fun e w'=>e= .returned (R (lF want))/\bX aa w0 w'):=by
 refine Calls.run aa Tryz.func130 ?_
 intro ac β S
 refine S.a8 12 .nil (want==5) (fun ac w β h1 bM S=>?_) (fun ac w β h1 bM S=>?_)
 ·exact S.bb 7 .nil [R 1] (g3 SB)
 exact S.bb 9 .nil [R 2] (g3 SB)
theorem DX {p:Prop} (h:p:=by clear S;(unfold kn;first|(rw [Bool.eq_iff_iff];simp_all;done)|(rw [Bool.eq_iff_iff];simp_all [aS];omega)|(simp_all;done))):p:=h
theorem F9 (w0:World) (bQ:Int) (nG:Int):Calls Tryz.prog 141 [R bQ,R nG].toArray w0 (fun e w'=>e= .returned (B (kn bQ nG))/\bX aa w0 w'):=by
 refine Calls.run aa Tryz.func141 ?_
 intro ac β S
 refine S.bs 10 (.cons (aY fun w hw=>fU w bQ 0 3) .nil) (aS bQ 0 3) (fun ac w β h1 S=>?_) (fun ac w β h1 S=>?_)
 ·have bM:=cM h1
  refine S.a8 3 .nil (nG==1) (fun ac w β aE ej S=>?_) (fun ac w β aE ej S=>?_)
  ·exact S.bb 14 (.cons (te (x:=bQ) (y:=nG)) .nil) [B ((mg bQ nG) != 0)] (b4 DX)
  refine S.a8 5 .nil (nG==2) (fun ac w β cf gn S=>?_) (fun ac w β cf gn S=>?_)
  ·exact S.bb 9 (.cons (te (x:=bQ) (y:=nG)) .nil) [B ((mg bQ nG) != 0)] (b4 DX)
  exact S.bb 9 .nil [B false] (b4 DX)
 have tS:=dC h1
 exact S.bb 17 .nil [B false] (b4 DX)
theorem Ye (w0:World) (outer:Int) (inner:Int) (nG:Int):Calls Tryz.prog 129 [R outer,R inner,R nG].toArray w0 (fun e w'=>e= .returned (R (mM outer inner nG))/\bX aa w0 w'):=by
 refine Calls.run aa Tryz.func129 ?_
 intro ac β S
 refine S.bs 15 (.cons (aY fun w hw=>F9 w inner nG) .nil) (kn inner nG) (fun ac w β h1 S=>?_) (fun ac w β h1 S=>?_)
 ·exact S.bb 7 .nil [R 1] (g3 (by clear S;(simp [mM, *])))
 refine S.bs 9 (.cons (aY fun w hw=>F9 w outer nG) .nil) (kn outer nG) (fun ac w β ah S=>?_) (fun ac w β ah S=>?_)
 ·exact S.bb 7 .nil [R 2] (g3 (by clear S;(simp [mM, *])))
 exact S.bb 10 .nil [R 0] (g3 (by clear S;(simp [mM, *])))
theorem Yd (w0:World) (n:Int) (bc:aq n):Calls Tryz.prog 187 [R n].toArray w0 (fun e w'=>e= .returned (GT.val (sa n) ())/\bX aa w0 w'):=by
 refine Calls.run aa Tryz.func187 ?_
 intro ac β S
 have yb:=bc.b9;have x5:=bc.hi
 exact S.bb 13 (.cons (dY (s:=Instr.build 100 [(0,R 3),(3,R n)].toArray) (v:= .agg [R 3,R 0,B false,R n].toArray) (fun w=>by kernel_rfl)) .nil) [GT.val (⟨3,0,false,n⟩:dI) ()] (mq (p:=()) (by clear S;rfl))
theorem SC {p:Prop} (h:p:=by clear S;(unfold oq;(repeat' split)<;>first|rfl|(exfalso;omega)|(exfalso;simp_all;done)|(exfalso;simp_all;omega)|(simp_all;done))):p:=h
theorem Oo (w0:World) (x:az) (cg:dB) (hx:br w0 x cg) (want:Int):Calls Tryz.prog 131 [GT.val x cg,R want].toArray w0 (dZ aa w0 (oq x want:az)):=by
 refine Calls.run aa Tryz.func131 ?_
 intro ac β S
 have aeM:x.prog.length<=4194304:=ag.le (a5.prog (d:=x) hx)
 have aeO:x.written.length<=4194304:=ag.le (a5.written (d:=x) hx)
 have aeL:x.live.length<=4194304:=ag.le (a5.live (d:=x) hx)
 have aeN:x.seen.length<=4194304:=ag.le (a5.seen (d:=x) hx)
 refine S.a8 13 .nil (want==5) (fun ac w β h1 bM S=>?_) (fun ac w β h1 bM S=>?_)
 ·refine S.go 2 .nil fun ac w β S=>?_
  refine dj ?_
  refine S.df (f:=10) 9 (by kernel_rfl) (by kernel_rfl) fun w S=>?_
  refine S.hm 5 [0,1,2,3,4] [] [(7,.v (GT.val x cg)),(9,.v (ab x.prog.length cg.prog.1)),(11,.v (R x.aN))] .nil fun ac S=>?_
  refine S.jk 5 [] [(12,.v (GT.val (dk x.prog x.aN) ()))] 2 [] (.cons (aY fun w hw=>vg w x.prog cg.prog (cQ (a5.prog (d:=x) (S.arg hx)) hw) x.aN) .nil) fun ac w β S=>?_
  refine S.aI 6 [6] [] [(13,.v (R (dk x.prog x.aN).x))] .nil fun ac S=>?_
  refine S.jk 7 [] [(14,.v (GT.val (sa (dk x.prog x.aN).x) ()))] 2 [] (.cons (aY fun w hw=>Yd w (dk x.prog x.aN).x (k9.x (d:=(dk x.prog x.aN)) (sA (a5.prog (d:=x) (S.arg hx)) x.aN))) .nil) fun ac w β S=>?_
  refine ao.one (i:=8) (by kernel_rfl) ?_
  refine id (S.cH 15 (vh w x cg (S.rd (S.arg hx)) (sa (dk x.prog x.aN).x) (aiK (k9.x (d:=(dk x.prog x.aN)) (sA (a5.prog (d:=x) (S.arg hx)) x.aN)))) fun ac w N pF fQ S up cG d6=>?_)
  refine ao.next S up (by kernel_rfl) ?_
  clear up d6
  refine S.b8 9 [] [] 2 [(1,GT.cells ({x with exit:=(sa (dk x.prog x.aN).x)}:az) pF)] .nil fun ac w β S=>?_
  refine ao.done (by kernel_rfl) ?_ _
  refine S.ex fun S=>?_
  refine S.aP 2 .nil [GT.val ({x with exit:=(sa (dk x.prog x.aN).x)}:az) pF] fun ac w β S=>?_
  exact cT S SC rfl cG
 refine S.go 7 (.cons (dY (s:=Instr.build 100 [(0,R 4)].toArray) (v:= .agg [R 4,R 0,B false,R 0].toArray) (fun w=>by kernel_rfl)) .nil) fun ac w β S=>S.ct (r:=({x with exit:=(⟨4,0,false,0⟩:dI)}:az)) (d:=18) (vh w x cg (S.rd (S.arg hx)) (⟨4,0,false,0⟩:dI) (show iu (⟨4,0,false,0⟩:dI) from⟨(show aq 4 from⟨by decide,by decide⟩),(show aq 0 from⟨by decide,by decide⟩),(show aq 0 from⟨by decide,by decide⟩)⟩)) fun ac w N uR eE S up a6 d10=>?_
 clear up d10
 refine S.aP 4 .nil [GT.val ({x with exit:=(⟨4,0,false,0⟩:dI)}:az) uR] fun ac w β S=>?_
 exact cT S SC rfl a6
theorem F_ (w0:World) (g:az) (cv:dB) (aJ:br w0 g cv):Calls Tryz.prog 132 [GT.val g cv].toArray w0 (dZ aa w0 (iN g:az)):=by
 refine Calls.run aa Tryz.func132 ?_
 intro ac β S
 have nT:g.prog.length<=4194304:=ag.le (a5.prog (d:=g) aJ)
 have nV:g.written.length<=4194304:=ag.le (a5.written (d:=g) aJ)
 have nS:g.live.length<=4194304:=ag.le (a5.live (d:=g) aJ)
 have nU:g.seen.length<=4194304:=ag.le (a5.seen (d:=g) aJ)
 refine S.go 15 .nil fun ac w β S=>S.ct (r:=cj (⟨g.prog,g.acc,g.aN,g.written,g.live,g.bH,g.av,g.exit,true,g.seen⟩:az)) (d:=5) (tp w (⟨g.prog,g.acc,g.aN,g.written,g.live,g.bH,g.av,g.exit,true,g.seen⟩:az) (⟨cv.prog,cv.written,cv.live,cv.seen⟩:dB) (S.rd (show GT.rd bz _ _ (⟨g.prog,g.acc,g.aN,g.written,g.live,g.bH,g.av,g.exit,true,g.seen⟩:az) (⟨cv.prog,cv.written,cv.live,cv.seen⟩:dB) from⟨(a5.prog (p:=cv) (d:=g) (S.arg aJ)),(a5.acc (d:=g) (S.arg aJ)),(a5.aN (d:=g) (S.arg aJ)),(a5.written (p:=cv) (d:=g) (S.arg aJ)),(a5.live (p:=cv) (d:=g) (S.arg aJ)),(a5.bH (d:=g) (S.arg aJ)),(a5.av (d:=g) (S.arg aJ)),(a5.exit (d:=g) (S.arg aJ)),(a5.seen (p:=cv) (d:=g) (S.arg aJ))⟩))) fun ac w N ae aX S up au d4=>?_
 clear up d4
 refine S.aP 4 .nil [GT.val (cj (⟨g.prog,g.acc,g.aN,g.written,g.live,g.bH,g.av,g.exit,true,g.seen⟩:az)) ae] fun ac w β S=>?_
 exact cT S (show iN g=(cj (⟨g.prog,g.acc,g.aN,g.written,g.live,g.bH,g.av,g.exit,true,g.seen⟩:az)) by clear S;rfl) rfl au
end Go.Proofs.YtmeoackmjdoecaaGreat
