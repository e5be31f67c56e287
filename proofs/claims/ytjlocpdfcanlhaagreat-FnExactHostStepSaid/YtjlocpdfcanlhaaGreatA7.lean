/- The walks: what each function that the laws reach computes (part 3). -/
import Derived.Test.YtjlocpdfcanlhaaGreatA6
import Derived.Test.YtjlocpdfcanlhaaGreatProg
import Derived.KernelRfl
namespace Go.Proofs.YtjlocpdfcanlhaaGreat
open Go
set_option linter.unusedVariables false
set_option linter.unusedSimpArgs false
set_option maxRecDepth 100000
set_option maxHeartbeats 2000000
theorem Z2 (w0:World) (h:ah) (ai:cb) (F:au) (a1:GT.own b7 F w0 h ai) (eM:∀b,F b->b<w0.heap.size) (m:Int) (g:Int) (want:Int) (ft:(0<=m/\m<h.I.length)/\0<=g/\g<(el h.I m.toNat).U.length) (gP:want=5\/want=6\/want=7):Calls Tryz.prog 34 [GT.val h ai,aa m,aa g,GT.val (el (el h.I m.toNat).U g.toNat) ((ai.I.2 m.toNat).U.2 g.toNat),aa want].toArray w0 (ur F F w0 (s6 h m (jr (el h.I m.toNat) g (el (el h.I m.toNat).U g.toNat) want):ah)):=by
 refine Calls.run F Tryz.func34 ?_
 intro ac β S
 have eb:ad w0 F w0 (fc w0.heap.size) F h ai:=⟨a1,eM,fun b hb=> .inr hb⟩
 obtain⟨cc,e4,e5,dT,bK,bY,bP,bo,_,_,_,_,d13,d14,d15,d16,d17,d18⟩:=jL eb
 have AX:a_ (el h.I m.toNat).owned:=aU.owned (d:=el h.I m.toNat) (af.el (bz.I (d:=h) (GT.gj a1)) m.toNat (by omega))
 have yi:=AX.lo;have D4:=AX.hi
 refine S.go 19 .nil fun ac w β S=>?_
 refine S.pV ⟨[(1,.v (aa m)),(2,.v (aa g)),(4,.v (aa want)),(5,.p 0 0),(8,.p 1 0),(10,.p 2 0),(11,.v (aa (if want=7 then 2 else 1)))],[[R h.mem.length ai.mem.1,R h.I.length ai.I.1,R h.buf.length ai.buf.1,R h.ag.length ai.ag.1],GT.cells (el (el h.I m.toNat).U g.toNat) ((ai.I.2 m.toNat).U.2 g.toNat),ck ah]⟩ ?_ ?_
 ·clear S;intro S
  refine S.aI 0 .nil (want==7) (fun ac w β iZ p5 S=>?_) (fun ac w β iZ p5 S=>?_)
  ·refine S.dF 4 .nil fun ac w β S=>?_
   exact⟨rfl,_,by rw [show(if want=7 then 2 else 1:Int)=2 by clear S;split<;>omega];exact S.z⟩
  refine S.dF 2 .nil fun ac w β S=>?_
  exact⟨rfl,_,by rw [show(if want=7 then 2 else 1:Int)=1 by clear S;split<;>omega];exact S.z⟩
 clear S;intro ac w β S
 refine S.go 2 .nil fun ac w β S=>?_
 refine il S (fun ac w=>∃(c0:List aO) (dd:aC aO) (fD:au) (u:_) (N:_) (β:_),(c0=h.I.set m.toNat ({el h.I m.toNat with owned:=gn (el h.I m.toNat) (el (el h.I m.toNat).U g.toNat) want}:aO))/\aj Tryz.prog Tryz.f34.ntmps w0 F u N β ⟨[(1,.v (aa m)),(2,.v (aa g)),(4,.v (aa want)),(5,.p 0 0),(8,.p 1 0),(10,.p 2 0)],[[R h.mem.length ai.mem.1,R c0.length dd.1,R h.buf.length ai.buf.1,R h.ag.length ai.ag.1],GT.cells (el (el h.I m.toNat).U g.toNat) ((ai.I.2 m.toNat).U.2 g.toNat),ck ah]⟩ ac w/\ad w0 F u N fD c0 dd/\ad w0 F u N cc h.mem ai.mem/\ad w0 F u N e5 h.buf ai.buf/\ad w0 F u N dT h.ag ai.ag/\J cc fD/\J e5 fD/\J dT fD/\de ai.I.2 dd.2) ?_ ?_
 ·clear S;intro S
  refine S.go 1 .nil fun ac w β S=>?_
  refine dI ?_
  rcases Bool.eq_false_or_eq_true (want != 6) with gN|gN
  ·have td:¬(want=6):=bne_iff_ne.1 gN
   rcases Bool.eq_false_or_eq_true ((hQ (el h.I m.toNat).aX (el (el h.I m.toNat).U g.toNat).aN.aX (if want=7 then 2 else 1))==2) with i_|i_
   ·have nL:(hQ (el h.I m.toNat).aX (el (el h.I m.toNat).U g.toNat).aN.aX (if want=7 then 2 else 1))=2:=eq_of_beq i_
    refine S.oa [(2,true),(16,true)] (keep:=[1,2,4,5,8,10,40]) (m:=3) (σ':=⟨[(1,.v (aa m)),(2,.v (aa g)),(4,.v (aa want)),(5,.p 0 0),(8,.p 1 0),(10,.p 2 0),(40,.v (B (decide ((el h.I m.toNat).owned<1000000000))))],[[R h.mem.length ai.mem.1,R h.I.length ai.I.1,R h.buf.length ai.buf.1,R h.ag.length ai.ag.1],GT.cells (el (el h.I m.toNat).U g.toNat) ((ai.I.2 m.toNat).U.2 g.toNat),ck ah]⟩) (.cons (cp bY.ak m Tryz.underlying28) (.cons (cz bY.ak 3 m.toNat 6 (aa (el h.I m.toNat).aX)) (.cons (aE fun w hw=>PU w (el h.I m.toNat).aX (el (el h.I m.toNat).U g.toNat).aN.aX (if want=7 then 2 else 1)) (.cons (cp bY.ak m Tryz.underlying28) (.cons (cz bY.ak 3 m.toNat 8 (aa (el h.I m.toNat).owned)) .nil))))) rfl (by kernel_rfl) (by kernel_rfl) (.cons gN (.cons i_ .nil)) fun ac w S=>?_
    refine S.ex fun S=>?_
    refine S.aI 1 .nil (decide ((el h.I m.toNat).owned<1000000000)) (fun ac w β mW rV S=>?_) (fun ac w β mW rV S=>?_)
    ·refine S.go 1 .nil fun ac w β S=>?_
     refine dI ?_
     refine S.dP (f:=13) 12 (by kernel_rfl) (by kernel_rfl) fun w S=>?_
     refine S.hm 3 [0,1,2,3,4,5,6,7,8,9] [] [(42,.v (R h.I.length ai.I.1)),(43,.v (aa m)),(50,.v (aa ((el h.I m.toNat).owned+1)))] (.cons (cp bY.ak m Tryz.underlying28) (.cons (cz bY.ak 3 m.toNat 8 (aa (el h.I m.toNat).owned)) (.cons (cg ((el h.I m.toNat).owned) 1) .nil))) fun ac S=>?_
     refine S.a9 10 [11,10] [] [(51,.v (bg ai.I.1.b (ai.I.1.off+m.toNat*9)))] (.cons (cp bY.ak m Tryz.underlying28) .nil) fun ac S=>?_
     refine S.a9 11 [11] [] [(52,.v (bg ai.I.1.b (ai.I.1.off+m.toNat*9+8)))] .nil fun ac S=>?_
     refine ar.one (i:=12) (by kernel_rfl) ?_
     refine id (S.qt (α:=aO) bY (t:=3) (v:=aa ((el h.I m.toNat).owned+1)) (k:=m.toNat) (j:=8) (off:=ai.I.1.off+m.toNat*9+8) (y:=({el h.I m.toNat with owned:=((el h.I m.toNat).owned+1)}:aO)) (q:=(ai.I.2 m.toNat)) (Fy:=ab) (by kernel_rfl) (by kernel_rfl) (by omega) (by kernel_rfl) (by kernel_rfl) (Nat.le_of_ble_eq_true (by kernel_rfl)) (by kernel_rfl) (fun G fk _=>⟨G,Mb fk (⟨by omega,by omega⟩),fun _ h=> .inl h⟩) (fun b _ h=>False.elim h) (fun b h=>False.elim h) (fun b h=>False.elim h) fun w N CM S up gY d39 FK agM=>?_)
     refine ar.last (by kernel_rfl) ?_
     obtain⟨lu,gY,z_⟩:∃lu:Nat->fj,ad w0 F _ _ CM (h.I.set m.toNat ({el h.I m.toNat with owned:=((el h.I m.toNat).owned+1)}:aO)) ((ai.I.1,lu):aC aO)/\de ai.I.2 lu:=⟨_,gY,de.st rfl⟩
     have xS:=de.iK (de.g0 _) z_
     have d44:=d39 _ d13 (fun b _ h=>False.elim h) bK.sub
     have d45:=d39 _ (J.symm d16) (fun b _ h=>False.elim h) bP.sub
     have d46:=d39 _ (J.symm d17) (fun b _ h=>False.elim h) bo.sub
     replace bK:=bK.bw d13 up
     replace bP:=bP.bw (J.symm d16) up
     replace bo:=bo.bw (J.symm d17) up
     clear up d39 bY agM
     have TK:(h.I.set m.toNat ({el h.I m.toNat with owned:=((el h.I m.toNat).owned+1)})).length=h.I.length:=List.length_set
     replace S:=S.z (σ':=⟨[(1,.v (aa m)),(2,.v (aa g)),(4,.v (aa want)),(5,.p 0 0),(8,.p 1 0),(10,.p 2 0),(50,.v (aa ((el h.I m.toNat).owned+1))),(52,.v (bg ai.I.1.b (ai.I.1.off+m.toNat*9+8)))],[[R h.mem.length ai.mem.1,R h.I.length ai.I.1,R h.buf.length ai.buf.1,R h.ag.length ai.ag.1],GT.cells (el (el h.I m.toNat).U g.toNat) ((ai.I.2 m.toNat).U.2 g.toNat),ck ah]⟩)
     replace S:=S.cast (σ':=⟨[(1,.v (aa m)),(2,.v (aa g)),(4,.v (aa want)),(5,.p 0 0),(8,.p 1 0),(10,.p 2 0),(50,.v (aa ((el h.I m.toNat).owned+1))),(52,.v (bg ai.I.1.b (ai.I.1.off+m.toNat*9+8)))],[[R h.mem.length ai.mem.1,R (h.I.set m.toNat ({el h.I m.toNat with owned:=((el h.I m.toNat).owned+1)})).length ai.I.1,R h.buf.length ai.buf.1,R h.ag.length ai.ag.1],GT.cells (el (el h.I m.toNat).U g.toNat) ((ai.I.2 m.toNat).U.2 g.toNat),ck ah]⟩) (by rw [show(h.I.set m.toNat ({el h.I m.toNat with owned:=((el h.I m.toNat).owned+1)})).length=h.I.length by omega])
     refine ar.done (by kernel_rfl) ?_ _
     refine S.ex fun S=>?_
     exact S.dF 0 .nil fun ac w β S=>⟨rfl,(h.I.set m.toNat ({el h.I m.toNat with owned:=((el h.I m.toNat).owned+1)})),(ai.I.1,lu),CM,_,_,_,(by clear S;first|exact Fl (by assumption) (by assumption) (by assumption) (by unfold fN;(repeat' split)<;>omega)|exact Fh (by assumption)|exact Fi (by assumption) (by unfold fN;(repeat' split)<;>omega)|exact Fj (by assumption)|exact Fk (by assumption) (by unfold fN;split<;>omega)|exact Fg (by assumption) (by unfold fN;split<;>omega)),S.z,gY,bK,bP,bo,d44,d45,d46,xS⟩
    exact S.dF 2 .nil fun ac w β S=>⟨rfl,h.I,ai.I,e4,_,_,_,(by clear S;first|exact Fl (by assumption) (by assumption) (by assumption) (by unfold fN;(repeat' split)<;>omega)|exact Fh (by assumption)|exact Fi (by assumption) (by unfold fN;(repeat' split)<;>omega)|exact Fj (by assumption)|exact Fk (by assumption) (by unfold fN;split<;>omega)|exact Fg (by assumption) (by unfold fN;split<;>omega)),S.z,bY,bK,bP,bo,d13,(J.symm d16),(J.symm d17),(de.g0 _)⟩
   ·have DK:¬((hQ (el h.I m.toNat).aX (el (el h.I m.toNat).U g.toNat).aN.aX (if want=7 then 2 else 1))=2):=ne_of_beq_false i_
    refine S.oa [(2,true),(16,false)] (keep:=[1,2,4,5,8,10,40]) (m:=3) (σ':=⟨[(1,.v (aa m)),(2,.v (aa g)),(4,.v (aa want)),(5,.p 0 0),(8,.p 1 0),(10,.p 2 0),(40,.v (B false))],[[R h.mem.length ai.mem.1,R h.I.length ai.I.1,R h.buf.length ai.buf.1,R h.ag.length ai.ag.1],GT.cells (el (el h.I m.toNat).U g.toNat) ((ai.I.2 m.toNat).U.2 g.toNat),ck ah]⟩) (.cons (cp bY.ak m Tryz.underlying28) (.cons (cz bY.ak 3 m.toNat 6 (aa (el h.I m.toNat).aX)) (.cons (aE fun w hw=>PU w (el h.I m.toNat).aX (el (el h.I m.toNat).U g.toNat).aN.aX (if want=7 then 2 else 1)) .nil))) rfl (by kernel_rfl) (by kernel_rfl) (.cons gN (.cons i_ .nil)) fun ac w S=>?_
    refine S.ex fun S=>?_
    exact S.dF 3 .nil fun ac w β S=>⟨rfl,h.I,ai.I,e4,_,_,_,(by clear S;first|exact Fl (by assumption) (by assumption) (by assumption) (by unfold fN;(repeat' split)<;>omega)|exact Fh (by assumption)|exact Fi (by assumption) (by unfold fN;(repeat' split)<;>omega)|exact Fj (by assumption)|exact Fk (by assumption) (by unfold fN;split<;>omega)|exact Fg (by assumption) (by unfold fN;split<;>omega)),S.z,bY,bK,bP,bo,d13,(J.symm d16),(J.symm d17),(de.g0 _)⟩
  ·have DL:want=6:=agX gN
   refine S.oa [(2,false)] (keep:=[1,2,4,5,8,10,40]) (m:=3) (σ':=⟨[(1,.v (aa m)),(2,.v (aa g)),(4,.v (aa want)),(5,.p 0 0),(8,.p 1 0),(10,.p 2 0),(40,.v (B false))],[[R h.mem.length ai.mem.1,R h.I.length ai.I.1,R h.buf.length ai.buf.1,R h.ag.length ai.ag.1],GT.cells (el (el h.I m.toNat).U g.toNat) ((ai.I.2 m.toNat).U.2 g.toNat),ck ah]⟩) .nil rfl (by kernel_rfl) (by kernel_rfl) (.cons gN .nil) fun ac w S=>?_
   refine S.ex fun S=>?_
   exact S.dF 3 .nil fun ac w β S=>⟨rfl,h.I,ai.I,e4,_,_,_,(by clear S;first|exact Fl (by assumption) (by assumption) (by assumption) (by unfold fN;(repeat' split)<;>omega)|exact Fh (by assumption)|exact Fi (by assumption) (by unfold fN;(repeat' split)<;>omega)|exact Fj (by assumption)|exact Fk (by assumption) (by unfold fN;split<;>omega)|exact Fg (by assumption) (by unfold fN;split<;>omega)),S.z,bY,bK,bP,bo,d13,(J.symm d16),(J.symm d17),(de.g0 _)⟩
 clear S bK bY bP bo
 rintro ac w ⟨c0,dd,fD,u,N,β,ada,S,ba,bK,bP,bo,d51,d52,d53,jC⟩
 have bn:=aie ada (by omega)
 refine S.ex fun S=>?_
 refine S.go 8 .nil fun ac w β S=>S.rA (r:=(dN (el (el h.I m.toNat).U g.toNat) (el (el h.I m.toNat).U g.toNat).aN.aX want).1) (r':=(dN (el (el h.I m.toNat).U g.toNat) (el (el h.I m.toNat).U g.toNat).aN.aX want).2) (d:=59) (ZT w (el (el h.I m.toNat).U g.toNat) ((ai.I.2 m.toNat).U.2 g.toNat) (S.rd (kk ba (by clear S;first|rfl|exact BH (by assumption)) (jC m.toNat) (by omega) (by omega))) (el (el h.I m.toNat).U g.toNat).aN.aX want) fun ac w N gk apV j4 wX S up eu eY d60 d61 d62=>?_
 have d67:=J.w d60 bK.sub
 have d68:=J.w d60 bP.sub
 have d69:=J.w d60 bo.sub
 have d70:=J.w d60 ba.sub
 replace bK:=bK.up up
 replace bP:=bP.up up
 replace bo:=bo.up up
 replace ba:=ba.up up
 clear up d60
 clear d61
 refine S.go 9 .nil fun ac w β S=>?_
 refine il S (fun ac w=>∃(aL:List aO) (k5:aC aO) (oT:au) (u:_) (N:_) (β:_),(aL=h.I.set m.toNat ({el h.I m.toNat with owned:=gn (el h.I m.toNat) (el (el h.I m.toNat).U g.toNat) want,outs:=lg (el h.I m.toNat) (el (el h.I m.toNat).U g.toNat) want}:aO))/\aj Tryz.prog Tryz.f34.ntmps w0 F u N β ⟨[(1,.v (aa m)),(2,.v (aa g)),(5,.p 0 0),(10,.p 2 0),(12,.p 3 0)],[[R h.mem.length ai.mem.1,R aL.length k5.1,R h.buf.length ai.buf.1,R h.ag.length ai.ag.1],GT.cells (el (el h.I m.toNat).U g.toNat) ((ai.I.2 m.toNat).U.2 g.toNat),ck ah,GT.cells (dN (el (el h.I m.toNat).U g.toNat) (el (el h.I m.toNat).U g.toNat).aN.aX want).1 gk]⟩ ac w/\ad w0 F u N oT aL k5/\ad w0 F u N cc h.mem ai.mem/\ad w0 F u N e5 h.buf ai.buf/\ad w0 F u N dT h.ag ai.ag/\ad w0 F u N j4 (dN (el (el h.I m.toNat).U g.toNat) (el (el h.I m.toNat).U g.toNat).aN.aX want).1 gk/\J cc oT/\J e5 oT/\J dT oT/\J j4 oT/\de ai.I.2 k5.2) ?_ ?_
 ·clear S;intro S
  refine S.bb 4 .nil (dN (el (el h.I m.toNat).U g.toNat) (el (el h.I m.toNat).U g.toNat).aN.aX want).2 (fun ac w β DP S=>?_) (fun ac w β DP S=>?_)
  ·refine S.aI 4 .nil (want==5) (fun ac w β DQ Iw S=>?_) (fun ac w β DQ Iw S=>?_)
   ·have amg:(el c0 m.toNat).outs.length<=4194304:=af.le (aU.outs (d:=(el c0 m.toNat)) (af.el ba.ak m.toNat (by omega)))
    refine S.aI 11 (.cons (cp ba.ak m Tryz.underlying28) (.cons (cz ba.ak 38 m.toNat 4 (R (el c0 m.toNat).outs.length (dd.2 m.toNat).outs.1)) .nil)) (decide (((el c0 m.toNat).outs.length:Int)<40)) (fun ac w β Ak Ab S=>?_) (fun ac w β Ak Ab S=>?_)
    ·refine S.go 1 .nil fun ac w β S=>?_
     refine dI ?_
     let kP:b1:=⟨[(1,.v (aa m)),(2,.v (aa g)),(5,.p 0 0),(8,.p 1 0),(10,.p 2 0),(12,.p 3 0),(76,.v (B true))],[[R h.mem.length ai.mem.1,R c0.length dd.1,R h.buf.length ai.buf.1,R h.ag.length ai.ag.1],GT.cells (el (el h.I m.toNat).U g.toNat) ((ai.I.2 m.toNat).U.2 g.toNat),ck ah,GT.cells (dN (el (el h.I m.toNat).U g.toNat) (el (el h.I m.toNat).U g.toNat).aN.aX want).1 gk]⟩
     obtain⟨bA,bx,bS,S,bK,bP,bo,ba,eu⟩:∃bA bx bS,aj Tryz.prog Tryz.f34.ntmps w0 F bA bx bS kP ac w/\ad w0 F bA bx cc h.mem ai.mem/\ad w0 F bA bx e5 h.buf ai.buf/\ad w0 F bA bx dT h.ag ai.ag/\ad w0 F bA bx fD c0 dd/\ad w0 F bA bx j4 (dN (el (el h.I m.toNat).U g.toNat) (el (el h.I m.toNat).U g.toNat).aN.aX want).1 gk:=⟨_,_,_,S.z,bK,bP,bo,ba,eu⟩
     refine mD (fun ac w=>∃pC lD u N β,aj Tryz.prog Tryz.f34.ntmps w0 F u N β (kP.dl [8,76] [] 4 [(0,[R h.mem.length ai.mem.1,R (c0.set m.toNat ({el c0 m.toNat with outs:=((el c0 m.toNat).outs++[(bF (el (el h.I m.toNat).U g.toNat).prog (el (el h.I m.toNat).U g.toNat).aw).x])})).length pC.1,R h.buf.length ai.buf.1,R h.ag.length ai.ag.1])]) ac w/\ad w0 F u N cc h.mem ai.mem/\ad w0 F u N e5 h.buf ai.buf/\ad w0 F u N dT h.ag ai.ag/\ad w0 F u N j4 (dN (el (el h.I m.toNat).U g.toNat) (el (el h.I m.toNat).U g.toNat).aN.aX want).1 gk/\ad w0 F u N lD (c0.set m.toNat ({el c0 m.toNat with outs:=((el c0 m.toNat).outs++[(bF (el (el h.I m.toNat).U g.toNat).prog (el (el h.I m.toNat).U g.toNat).aw).x])})) pC/\J cc lD/\J e5 lD/\J dT lD/\J j4 lD/\de ai.I.2 pC.2) ?_ ?_
     ·refine S.dP (f:=20) 16 (by kernel_rfl) (by kernel_rfl) fun w S=>?_
      refine S.a9 3 [8,7,6,4,3] [] [(80,.p 0 1)] .nil fun ac S=>?_
      refine S.a9 4 [8,7,6,4] [] [(81,.v (R c0.length dd.1))] .nil fun ac S=>?_
      refine S.a9 5 [8,7,6,5] [] [(82,.v (aa m))] .nil fun ac S=>?_
      refine S.a9 6 [8,7,6] [] [(83,.v (bg dd.1.b (dd.1.off+m.toNat*9)))] (.cons (cp ba.ak m Tryz.underlying28) .nil) fun ac S=>?_
      refine S.a9 7 [8,7] [] [(84,.v (bg dd.1.b (dd.1.off+m.toNat*9+4)))] .nil fun ac S=>?_
      refine S.a9 8 [8] [] [(85,.v (R (el c0 m.toNat).outs.length (dd.2 m.toNat).outs.1))] (.cons (cz ba.ak 38 m.toNat 4 (R (el c0 m.toNat).outs.length (dd.2 m.toNat).outs.1)) .nil) fun ac S=>?_
      refine S.a9 9 [13,10,9] [] [(86,.p 1 0)] .nil fun ac S=>?_
      refine S.a9 10 [13,10] [] [(87,.v (R (el (el h.I m.toNat).U g.toNat).prog.length ((ai.I.2 m.toNat).U.2 g.toNat).prog.1))] .nil fun ac S=>?_
      refine S.a9 11 [13,12,11] [] [(88,.p 1 2)] .nil fun ac S=>?_
      refine S.a9 12 [13,12] [] [(89,.v (aa (el (el h.I m.toNat).U g.toNat).aw))] .nil fun ac S=>?_
      refine ar.m8 fun W aH=>?_
      refine ar.mP (l':=cu 20 [3,4,5,6,7,8,9,10,11,12]) (by kernel_rfl) ?_
      have Am ac w pC lD u N β (S:aj Tryz.prog Tryz.f34.ntmps w0 F u N β (kP.dl [8,76] [] 4 [(0,[R h.mem.length ai.mem.1,R (c0.set m.toNat ({el c0 m.toNat with outs:=((el c0 m.toNat).outs++[(bF (el (el h.I m.toNat).U g.toNat).prog (el (el h.I m.toNat).U g.toNat).aw).x])})).length pC.1,R h.buf.length ai.buf.1,R h.ag.length ai.ag.1])]) ac w) (bK:ad w0 F u N cc h.mem ai.mem) (bP:ad w0 F u N e5 h.buf ai.buf) (bo:ad w0 F u N dT h.ag ai.ag) (eu:ad w0 F u N j4 (dN (el (el h.I m.toNat).U g.toNat) (el (el h.I m.toNat).U g.toNat).aN.aX want).1 gk) (Li:ad w0 F u N lD (c0.set m.toNat ({el c0 m.toNat with outs:=((el c0 m.toNat).outs++[(bF (el (el h.I m.toNat).U g.toNat).prog (el (el h.I m.toNat).U g.toNat).aw).x])})) pC) (d161:J cc lD) (d162:J e5 lD) (d163:J dT lD) (d164:J j4 lD) (Iz:de ai.I.2 pC.2):W 0 (cu 20 [0,1,2,3,4,5,6,7,8,9,10,11,12,13,14,15,16,17,18,19]) ac w:=by
       exact nb aH ⟨rfl,pC,lD,_,_,_,S.z,bK,bP,bo,eu,Li,d161,d162,d163,d164,Iz⟩
      have Rq ac w iH iN u N β (S:aj Tryz.prog Tryz.f34.ntmps w0 F u N β (kP.dl [8,76] [(78,.v (R c0.length dd.1)),(79,.v (aa m)),(85,.v (R (el c0 m.toNat).outs.length (dd.2 m.toNat).outs.1)),(92,.v (R 1 iH.1))] 4 []) ac w) (bK:ad w0 F u N cc h.mem ai.mem) (bP:ad w0 F u N e5 h.buf ai.buf) (bo:ad w0 F u N dT h.ag ai.ag) (ba:ad w0 F u N fD c0 dd) (eu:ad w0 F u N j4 (dN (el (el h.I m.toNat).U g.toNat) (el (el h.I m.toNat).U g.toNat).aN.aX want).1 gk) (gi:ad w0 F u N iN ([(bF (el (el h.I m.toNat).U g.toNat).prog (el (el h.I m.toNat).U g.toNat).aw).x]) iH) (d166:J cc iN) (d167:J e5 iN) (d168:J dT iN) (d169:J fD iN) (d170:J j4 iN) (al:d_ bx bA N u) (aP:cS kP.aM.length bS β):W 4 (cu 20 [0,1,2,3,4,5,6,7,8,9,10,11,12,13,14,15]) ac w:=by
       refine en aH 16 ?_
       have alX:(el c0 m.toNat).outs.length<=4194304:=af.le (aU.outs (d:=(el c0 m.toNat)) (af.el ba.ak m.toNat (by omega)))
       refine id (S.G2 ba m.toNat gi.ak (by':=8) (d:=93) (by omega) (show(el c0 m.toNat).outs.length+([(bF (el (el h.I m.toNat).U g.toNat).prog (el (el h.I m.toNat).U g.toNat).aw).x]).length<=4194304 by simp only [List.length_cons,List.length_nil];omega) fun ac w N sy Gb S up v9 apY akM y_ agt akN=>?_)
       refine ar.c9 fun bk=>?_
       have d184:=y_ _ bK.sub
       have d185:=y_ _ bP.sub
       have d186:=y_ _ bo.sub
       have d187:=y_ _ eu.sub
       have d189:=y_ _ ba.sub
       replace bK:=bK.bw d51 up
       replace bP:=bP.bw d52 up
       replace bo:=bo.bw d53 up
       replace eu:=eu.bw (J.symm d70) up
       replace gi:=gi.bw (J.symm d169) up
       clear up y_ ba
       refine S.cZ (σ':=(kP.dl [8,76] [(78,.v (R c0.length dd.1)),(79,.v (aa m)),(93,.v (R ((el c0 m.toNat).outs++[(bF (el (el h.I m.toNat).U g.toNat).prog (el (el h.I m.toNat).U g.toNat).aw).x]).length sy.1))] 4 [])) (f:=3) (l2:=cu 20 [0,1,2,3,4,5,6,7,8,9,10,11,12,13,14,15,16]) aH [] bk fun _ S=>?_
       refine en aH 17 (S.wl (σ':=(kP.dl [8,76] [(93,.v (R ((el c0 m.toNat).outs++[(bF (el (el h.I m.toNat).U g.toNat).prog (el (el h.I m.toNat).U g.toNat).aw).x]).length sy.1)),(95,.v (bg dd.1.b (dd.1.off+m.toNat*9+4)))] 4 [])) (f:=1) (l2:=cu 20 [0,1,2,3,4,5,6,7,8,9,10,11,12,13,14,15,16,17,18]) aH [18] (.cons (cp v9.ak m Tryz.underlying28) .nil) fun _ _ _ S=>?_)
       refine en aH 19 ?_
       refine id (S.qt (α:=aO) v9 (t:=38) (v:=R ((el c0 m.toNat).outs++[(bF (el (el h.I m.toNat).U g.toNat).prog (el (el h.I m.toNat).U g.toNat).aw).x]).length sy.1) (k:=m.toNat) (j:=4) (off:=dd.1.off+m.toNat*9+4) (y:=({el c0 m.toNat with outs:=((el c0 m.toNat).outs++[(bF (el (el h.I m.toNat).U g.toNat).prog (el (el h.I m.toNat).U g.toNat).aw).x])}:aO)) (q:=({dd.2 m.toNat with outs:=sy}:fj)) (Fy:=Gb) (by kernel_rfl) (by kernel_rfl) (by omega) (by kernel_rfl) (by kernel_rfl) (Nat.le_of_ble_eq_true (by kernel_rfl)) (by kernel_rfl) akM d189 agt akN fun w N NZ S up Bs d193 ap3 agy=>?_)
       refine ar.c9 fun bk=>?_
       obtain⟨wo,Bs,ab8⟩:∃wo:Nat->fj,ad w0 F _ _ NZ (c0.set m.toNat ({el c0 m.toNat with outs:=((el c0 m.toNat).outs++[(bF (el (el h.I m.toNat).U g.toNat).prog (el (el h.I m.toNat).U g.toNat).aw).x])}:aO)) ((dd.1,wo):aC aO)/\de dd.2 wo:=⟨_,Bs,de.st rfl⟩
       have ab9:=de.iK jC ab8
       have d198:=d193 _ d51 d184 bK.sub
       have d199:=d193 _ d52 d185 bP.sub
       have d200:=d193 _ d53 d186 bo.sub
       have d201:=d193 _ (J.symm d70) d187 eu.sub
       replace bK:=bK.bw d51 up
       replace bP:=bP.bw d52 up
       replace bo:=bo.bw d53 up
       replace eu:=eu.bw (J.symm d70) up
       clear up d193 v9 agy
       have aoU:(c0.set m.toNat ({el c0 m.toNat with outs:=((el c0 m.toNat).outs++[(bF (el (el h.I m.toNat).U g.toNat).prog (el (el h.I m.toNat).U g.toNat).aw).x])})).length=c0.length:=List.length_set
       replace S:=S.z (σ':=⟨[(1,.v (aa m)),(2,.v (aa g)),(5,.p 0 0),(10,.p 2 0),(12,.p 3 0),(93,.v (R ((el c0 m.toNat).outs++[(bF (el (el h.I m.toNat).U g.toNat).prog (el (el h.I m.toNat).U g.toNat).aw).x]).length sy.1)),(95,.v (bg dd.1.b (dd.1.off+m.toNat*9+4)))],[[R h.mem.length ai.mem.1,R c0.length dd.1,R h.buf.length ai.buf.1,R h.ag.length ai.ag.1],GT.cells (el (el h.I m.toNat).U g.toNat) ((ai.I.2 m.toNat).U.2 g.toNat),ck ah,GT.cells (dN (el (el h.I m.toNat).U g.toNat) (el (el h.I m.toNat).U g.toNat).aN.aX want).1 gk]⟩)
       replace S:=S.cast (σ':=⟨[(1,.v (aa m)),(2,.v (aa g)),(5,.p 0 0),(10,.p 2 0),(12,.p 3 0),(93,.v (R ((el c0 m.toNat).outs++[(bF (el (el h.I m.toNat).U g.toNat).prog (el (el h.I m.toNat).U g.toNat).aw).x]).length sy.1)),(95,.v (bg dd.1.b (dd.1.off+m.toNat*9+4)))],[[R h.mem.length ai.mem.1,R (c0.set m.toNat ({el c0 m.toNat with outs:=((el c0 m.toNat).outs++[(bF (el (el h.I m.toNat).U g.toNat).prog (el (el h.I m.toNat).U g.toNat).aw).x])})).length dd.1,R h.buf.length ai.buf.1,R h.ag.length ai.ag.1],GT.cells (el (el h.I m.toNat).U g.toNat) ((ai.I.2 m.toNat).U.2 g.toNat),ck ah,GT.cells (dN (el (el h.I m.toNat).U g.toNat) (el (el h.I m.toNat).U g.toNat).aN.aX want).1 gk]⟩) (by rw [show(c0.set m.toNat ({el c0 m.toNat with outs:=((el c0 m.toNat).outs++[(bF (el (el h.I m.toNat).U g.toNat).prog (el (el h.I m.toNat).U g.toNat).aw).x])})).length=c0.length by omega])
       exact S.cZ aH [] bk fun _ S=>Am _ _ (dd.1,wo) NZ _ _ _ S bK bP bo eu Bs d198 d199 d200 d201 ab9
      have Ru ac w u N β (S:aj Tryz.prog Tryz.f34.ntmps w0 F u N β (kP.dl [8,76] [(78,.v (R c0.length dd.1)),(79,.v (aa m)),(85,.v (R (el c0 m.toNat).outs.length (dd.2 m.toNat).outs.1)),(91,.v (aa (bF (el (el h.I m.toNat).U g.toNat).prog (el (el h.I m.toNat).U g.toNat).aw).x))] 4 []) ac w) (bK:ad w0 F u N cc h.mem ai.mem) (bP:ad w0 F u N e5 h.buf ai.buf) (bo:ad w0 F u N dT h.ag ai.ag) (ba:ad w0 F u N fD c0 dd) (eu:ad w0 F u N j4 (dN (el (el h.I m.toNat).U g.toNat) (el (el h.I m.toNat).U g.toNat).aN.aX want).1 gk) (al:d_ bx bA N u) (aP:cS kP.aM.length bS β):W 5 (cu 20 [0,1,2,3,4,5,6,7,8,9,10,11,12,13,14]) ac w:=by
       refine en aH 15 ?_
       refine id (S.pS (α:=Int) (x:=(bF (el (el h.I m.toNat).U g.toNat).prog (el (el h.I m.toNat).U g.toNat).aw).x) (p:=()) (F:=ab) (iY.x (d:=(bF (el (el h.I m.toNat).U g.toNat).prog (el (el h.I m.toNat).U g.toNat).aw)) (lV (az.prog (d:=(el (el h.I m.toNat).U g.toNat)) (kk ba (by clear S;first|rfl|exact BH (by assumption)) (jC m.toNat) (by omega) (by omega))) (el (el h.I m.toNat).U g.toNat).aw)) (fun b h=>False.elim h) (fun b h=>False.elim h) (d:=92) (by kernel_rfl) fun ac w N aiO Wp S up E1 d207=>?_)
       have R4:=fun b h=>(⟨(up b (al b h).1).1,(up b (al b h).1).2.trans (al b h).2⟩:_/\_)
       refine ar.dh S R4 aP fun bk=>?_
       have d209:=d207 _ (fun b _ h=>False.elim h) bK.sub
       have d210:=d207 _ (fun b _ h=>False.elim h) bP.sub
       have d211:=d207 _ (fun b _ h=>False.elim h) bo.sub
       have d212:=d207 _ (fun b _ h=>False.elim h) ba.sub
       have d213:=d207 _ (fun b _ h=>False.elim h) eu.sub
       replace bK:=bK.up up
       replace bP:=bP.up up
       replace bo:=bo.up up
       replace ba:=ba.up up
       replace eu:=eu.up up
       clear up d207
       exact S.cZ aH [] bk fun _ S=>Rq _ _ aiO Wp _ _ _ S bK bP bo ba eu E1 d209 d210 d211 d212 d213 R4 aP
      have adC ac w iH iN u N β (S:aj Tryz.prog Tryz.f34.ntmps w0 F u N β (kP.dl [8,76] [(77,.p 0 1),(79,.v (aa m)),(85,.v (R (el c0 m.toNat).outs.length (dd.2 m.toNat).outs.1)),(92,.v (R 1 iH.1))] 4 []) ac w) (bK:ad w0 F u N cc h.mem ai.mem) (bP:ad w0 F u N e5 h.buf ai.buf) (bo:ad w0 F u N dT h.ag ai.ag) (ba:ad w0 F u N fD c0 dd) (eu:ad w0 F u N j4 (dN (el (el h.I m.toNat).U g.toNat) (el (el h.I m.toNat).U g.toNat).aN.aX want).1 gk) (gi:ad w0 F u N iN ([(bF (el (el h.I m.toNat).U g.toNat).prog (el (el h.I m.toNat).U g.toNat).aw).x]) iH) (d215:J cc iN) (d216:J e5 iN) (d217:J dT iN) (d218:J fD iN) (d219:J j4 iN) (al:d_ bx bA N u) (aP:cS kP.aM.length bS β):W 5 (cu 20 [0,2,3,4,5,6,7,8,9,10,11,12,13,14,15]) ac w:=by
       refine gx aH 1 16 (S.e0 aH al aP [] .nil fun _ _ _ S ca=>Rq _ _ iH iN _ _ _ S bK bP bo ba eu gi d215 d216 d217 d218 d219 al ca) ?_
       have al0:(el c0 m.toNat).outs.length<=4194304:=af.le (aU.outs (d:=(el c0 m.toNat)) (af.el ba.ak m.toNat (by omega)))
       refine id (S.G2 ba m.toNat gi.ak (by':=8) (d:=93) (by omega) (show(el c0 m.toNat).outs.length+([(bF (el (el h.I m.toNat).U g.toNat).prog (el (el h.I m.toNat).U g.toNat).aw).x]).length<=4194304 by simp only [List.length_cons,List.length_nil];omega) fun ac w N rf Gc S up Bv apZ akP wN agC akQ=>?_)
       refine ar.c9 fun bk=>?_
       have d233:=wN _ bK.sub
       have d234:=wN _ bP.sub
       have d235:=wN _ bo.sub
       have d236:=wN _ eu.sub
       have d238:=wN _ ba.sub
       replace bK:=bK.bw d51 up
       replace bP:=bP.bw d52 up
       replace bo:=bo.bw d53 up
       replace eu:=eu.bw (J.symm d70) up
       clear up wN ba
       refine S.cZ (σ':=(kP.dl [8,76] [(77,.p 0 1),(79,.v (aa m)),(93,.v (R ((el c0 m.toNat).outs++[(bF (el (el h.I m.toNat).U g.toNat).prog (el (el h.I m.toNat).U g.toNat).aw).x]).length rf.1))] 4 [])) (f:=4) (l2:=cu 20 [0,2,3,4,5,6,7,8,9,10,11,12,13,14,15,16]) aH [] bk fun _ S=>?_
       refine en aH 1 (S.wl (σ':=(kP.dl [8,76] [(78,.v (R c0.length dd.1)),(79,.v (aa m)),(93,.v (R ((el c0 m.toNat).outs++[(bF (el (el h.I m.toNat).U g.toNat).prog (el (el h.I m.toNat).U g.toNat).aw).x]).length rf.1))] 4 [])) (f:=3) (l2:=cu 20 [0,1,2,3,4,5,6,7,8,9,10,11,12,13,14,15,16]) aH [] .nil fun _ _ _ S=>?_)
       refine en aH 17 (S.wl (σ':=(kP.dl [8,76] [(93,.v (R ((el c0 m.toNat).outs++[(bF (el (el h.I m.toNat).U g.toNat).prog (el (el h.I m.toNat).U g.toNat).aw).x]).length rf.1)),(95,.v (bg dd.1.b (dd.1.off+m.toNat*9+4)))] 4 [])) (f:=1) (l2:=cu 20 [0,1,2,3,4,5,6,7,8,9,10,11,12,13,14,15,16,17,18]) aH [18] (.cons (cp Bv.ak m Tryz.underlying28) .nil) fun _ _ _ S=>?_)
       refine en aH 19 ?_
       refine id (S.qt (α:=aO) Bv (t:=38) (v:=R ((el c0 m.toNat).outs++[(bF (el (el h.I m.toNat).U g.toNat).prog (el (el h.I m.toNat).U g.toNat).aw).x]).length rf.1) (k:=m.toNat) (j:=4) (off:=dd.1.off+m.toNat*9+4) (y:=({el c0 m.toNat with outs:=((el c0 m.toNat).outs++[(bF (el (el h.I m.toNat).U g.toNat).prog (el (el h.I m.toNat).U g.toNat).aw).x])}:aO)) (q:=({dd.2 m.toNat with outs:=rf}:fj)) (Fy:=Gc) (by kernel_rfl) (by kernel_rfl) (by omega) (by kernel_rfl) (by kernel_rfl) (Nat.le_of_ble_eq_true (by kernel_rfl)) (by kernel_rfl) akP d238 agC akQ fun w N N2 S up Lk d242 ap4 agF=>?_)
       refine ar.c9 fun bk=>?_
       obtain⟨Fw,Lk,ab_⟩:∃Fw:Nat->fj,ad w0 F _ _ N2 (c0.set m.toNat ({el c0 m.toNat with outs:=((el c0 m.toNat).outs++[(bF (el (el h.I m.toNat).U g.toNat).prog (el (el h.I m.toNat).U g.toNat).aw).x])}:aO)) ((dd.1,Fw):aC aO)/\de dd.2 Fw:=⟨_,Lk,de.st rfl⟩
       have aca:=de.iK jC ab_
       have d247:=d242 _ d51 d233 bK.sub
       have d248:=d242 _ d52 d234 bP.sub
       have d249:=d242 _ d53 d235 bo.sub
       have d250:=d242 _ (J.symm d70) d236 eu.sub
       replace bK:=bK.bw d51 up
       replace bP:=bP.bw d52 up
       replace bo:=bo.bw d53 up
       replace eu:=eu.bw (J.symm d70) up
       clear up d242 Bv agF
       have ao2:(c0.set m.toNat ({el c0 m.toNat with outs:=((el c0 m.toNat).outs++[(bF (el (el h.I m.toNat).U g.toNat).prog (el (el h.I m.toNat).U g.toNat).aw).x])})).length=c0.length:=List.length_set
       replace S:=S.z (σ':=⟨[(1,.v (aa m)),(2,.v (aa g)),(5,.p 0 0),(10,.p 2 0),(12,.p 3 0),(93,.v (R ((el c0 m.toNat).outs++[(bF (el (el h.I m.toNat).U g.toNat).prog (el (el h.I m.toNat).U g.toNat).aw).x]).length rf.1)),(95,.v (bg dd.1.b (dd.1.off+m.toNat*9+4)))],[[R h.mem.length ai.mem.1,R c0.length dd.1,R h.buf.length ai.buf.1,R h.ag.length ai.ag.1],GT.cells (el (el h.I m.toNat).U g.toNat) ((ai.I.2 m.toNat).U.2 g.toNat),ck ah,GT.cells (dN (el (el h.I m.toNat).U g.toNat) (el (el h.I m.toNat).U g.toNat).aN.aX want).1 gk]⟩)
       replace S:=S.cast (σ':=⟨[(1,.v (aa m)),(2,.v (aa g)),(5,.p 0 0),(10,.p 2 0),(12,.p 3 0),(93,.v (R ((el c0 m.toNat).outs++[(bF (el (el h.I m.toNat).U g.toNat).prog (el (el h.I m.toNat).U g.toNat).aw).x]).length rf.1)),(95,.v (bg dd.1.b (dd.1.off+m.toNat*9+4)))],[[R h.mem.length ai.mem.1,R (c0.set m.toNat ({el c0 m.toNat with outs:=((el c0 m.toNat).outs++[(bF (el (el h.I m.toNat).U g.toNat).prog (el (el h.I m.toNat).U g.toNat).aw).x])})).length dd.1,R h.buf.length ai.buf.1,R h.ag.length ai.ag.1],GT.cells (el (el h.I m.toNat).U g.toNat) ((ai.I.2 m.toNat).U.2 g.toNat),ck ah,GT.cells (dN (el (el h.I m.toNat).U g.toNat) (el (el h.I m.toNat).U g.toNat).aN.aX want).1 gk]⟩) (by rw [show(c0.set m.toNat ({el c0 m.toNat with outs:=((el c0 m.toNat).outs++[(bF (el (el h.I m.toNat).U g.toNat).prog (el (el h.I m.toNat).U g.toNat).aw).x])})).length=c0.length by omega])
       exact S.cZ aH [] bk fun _ S=>Am _ _ (dd.1,Fw) N2 _ _ _ S bK bP bo eu Lk d247 d248 d249 d250 aca
      have adD ac w u N β (S:aj Tryz.prog Tryz.f34.ntmps w0 F u N β (kP.dl [8,76] [(77,.p 0 1),(79,.v (aa m)),(85,.v (R (el c0 m.toNat).outs.length (dd.2 m.toNat).outs.1)),(91,.v (aa (bF (el (el h.I m.toNat).U g.toNat).prog (el (el h.I m.toNat).U g.toNat).aw).x))] 4 []) ac w) (bK:ad w0 F u N cc h.mem ai.mem) (bP:ad w0 F u N e5 h.buf ai.buf) (bo:ad w0 F u N dT h.ag ai.ag) (ba:ad w0 F u N fD c0 dd) (eu:ad w0 F u N j4 (dN (el (el h.I m.toNat).U g.toNat) (el (el h.I m.toNat).U g.toNat).aN.aX want).1 gk) (al:d_ bx bA N u) (aP:cS kP.aM.length bS β):W 6 (cu 20 [0,2,3,4,5,6,7,8,9,10,11,12,13,14]) ac w:=by
       refine gx aH 1 15 (S.e0 aH al aP [] .nil fun _ _ _ S ca=>Ru _ _ _ _ _ S bK bP bo ba eu al ca) ?_
       refine id (S.pS (α:=Int) (x:=(bF (el (el h.I m.toNat).U g.toNat).prog (el (el h.I m.toNat).U g.toNat).aw).x) (p:=()) (F:=ab) (iY.x (d:=(bF (el (el h.I m.toNat).U g.toNat).prog (el (el h.I m.toNat).U g.toNat).aw)) (lV (az.prog (d:=(el (el h.I m.toNat).U g.toNat)) (kk ba (by clear S;first|rfl|exact BH (by assumption)) (jC m.toNat) (by omega) (by omega))) (el (el h.I m.toNat).U g.toNat).aw)) (fun b h=>False.elim h) (fun b h=>False.elim h) (d:=92) (by kernel_rfl) fun ac w N aiP Gd S up Bw d256=>?_)
       have R6:=fun b h=>(⟨(up b (al b h).1).1,(up b (al b h).1).2.trans (al b h).2⟩:_/\_)
       refine ar.dh S R6 aP fun bk=>?_
       have d258:=d256 _ (fun b _ h=>False.elim h) bK.sub
       have d259:=d256 _ (fun b _ h=>False.elim h) bP.sub
       have d260:=d256 _ (fun b _ h=>False.elim h) bo.sub
       have d261:=d256 _ (fun b _ h=>False.elim h) ba.sub
       have d262:=d256 _ (fun b _ h=>False.elim h) eu.sub
       replace bK:=bK.up up
       replace bP:=bP.up up
       replace bo:=bo.up up
       replace ba:=ba.up up
       replace eu:=eu.up up
       clear up d256
       exact S.cZ aH [] bk fun _ S=>adC _ _ aiP Gd _ _ _ S bK bP bo ba eu Bw d258 d259 d260 d261 d262 R6 aP
      have IY ac w u N β (S:aj Tryz.prog Tryz.f34.ntmps w0 F u N β (kP.dl [8,76] [(78,.v (R c0.length dd.1)),(79,.v (aa m)),(85,.v (R (el c0 m.toNat).outs.length (dd.2 m.toNat).outs.1)),(87,.v (R (el (el h.I m.toNat).U g.toNat).prog.length ((ai.I.2 m.toNat).U.2 g.toNat).prog.1)),(89,.v (aa (el (el h.I m.toNat).U g.toNat).aw))] 4 []) ac w) (bK:ad w0 F u N cc h.mem ai.mem) (bP:ad w0 F u N e5 h.buf ai.buf) (bo:ad w0 F u N dT h.ag ai.ag) (ba:ad w0 F u N fD c0 dd) (eu:ad w0 F u N j4 (dN (el (el h.I m.toNat).U g.toNat) (el (el h.I m.toNat).U g.toNat).aN.aX want).1 gk) (al:d_ bx bA N u) (aP:cS kP.aM.length bS β):W 7 (cu 20 [0,1,2,3,4,5,6,7,8,9,10,11,12]) ac w:=by
       exact en aH 13 (S.e0 aH al aP [14] (.cons (aE fun w hw=>uz w (el (el h.I m.toNat).U g.toNat).prog ((ai.I.2 m.toNat).U.2 g.toNat).prog (bN (az.prog (d:=(el (el h.I m.toNat).U g.toNat)) (kk ba (by clear S;first|rfl|exact BH (by assumption)) (jC m.toNat) (by omega) (by omega))) hw) (el (el h.I m.toNat).U g.toNat).aw) .nil) fun _ _ _ S ca=>Ru _ _ _ _ _ S bK bP bo ba eu al ca)
      have adE ac w u N β (S:aj Tryz.prog Tryz.f34.ntmps w0 F u N β (kP.dl [8,76] [(77,.p 0 1),(79,.v (aa m)),(85,.v (R (el c0 m.toNat).outs.length (dd.2 m.toNat).outs.1)),(87,.v (R (el (el h.I m.toNat).U g.toNat).prog.length ((ai.I.2 m.toNat).U.2 g.toNat).prog.1)),(89,.v (aa (el (el h.I m.toNat).U g.toNat).aw))] 4 []) ac w) (bK:ad w0 F u N cc h.mem ai.mem) (bP:ad w0 F u N e5 h.buf ai.buf) (bo:ad w0 F u N dT h.ag ai.ag) (ba:ad w0 F u N fD c0 dd) (eu:ad w0 F u N j4 (dN (el (el h.I m.toNat).U g.toNat) (el (el h.I m.toNat).U g.toNat).aN.aX want).1 gk) (al:d_ bx bA N u) (aP:cS kP.aM.length bS β):W 8 (cu 20 [0,2,3,4,5,6,7,8,9,10,11,12]) ac w:=by
       exact gx aH 1 13 (S.e0 aH al aP [] .nil fun _ _ _ S ca=>IY _ _ _ _ _ S bK bP bo ba eu al ca) (S.e0 aH al aP [14] (.cons (aE fun w hw=>uz w (el (el h.I m.toNat).U g.toNat).prog ((ai.I.2 m.toNat).U.2 g.toNat).prog (bN (az.prog (d:=(el (el h.I m.toNat).U g.toNat)) (kk ba (by clear S;first|rfl|exact BH (by assumption)) (jC m.toNat) (by omega) (by omega))) hw) (el (el h.I m.toNat).U g.toNat).aw) .nil) fun _ _ _ S ca=>adD _ _ _ _ _ S bK bP bo ba eu al ca)
      rw [aH]
      exact S.cZ aH [0,2] (fun _=>S.tR) fun _ S=>adE _ _ _ _ _ S bK bP bo ba eu (fun _ h=>⟨h,rfl⟩) (fun _ _=>rfl)
     clear S bK bP bo ba eu
     rintro ac w ⟨pC,lD,u,N,β,S,bK,bP,bo,eu,Li,d265,d266,d267,d268,Iz⟩
     refine S.ex fun S=>?_
     exact S.dF 0 .nil fun ac w β S=>⟨rfl,(c0.set m.toNat ({el c0 m.toNat with outs:=((el c0 m.toNat).outs++[(bF (el (el h.I m.toNat).U g.toNat).prog (el (el h.I m.toNat).U g.toNat).aw).x])})),pC,lD,_,_,_,(by clear S;first|exact Fe (by assumption) (by assumption) (by assumption) (by assumption)|exact E_ (by assumption) (by assumption)|exact Fa (by assumption) (by assumption)|exact Fb (by assumption) (by assumption)|exact Fc (by assumption) (by assumption) (by assumption)|exact E9 (by assumption) (by assumption)),S.z,Li,bK,bP,bo,eu,d265,d266,d267,d268,Iz⟩
    exact S.dF 2 .nil fun ac w β S=>⟨rfl,c0,dd,fD,_,_,_,(by clear S;first|exact Fe (by assumption) (by assumption) (by assumption) (by assumption)|exact E_ (by assumption) (by assumption)|exact Fa (by assumption) (by assumption)|exact Fb (by assumption) (by assumption)|exact Fc (by assumption) (by assumption) (by assumption)|exact E9 (by assumption) (by assumption)),S.z,ba,bK,bP,bo,eu,d51,d52,d53,(J.symm d70),jC⟩
   exact S.dF 13 .nil fun ac w β S=>⟨rfl,c0,dd,fD,_,_,_,(by clear S;first|exact Fe (by assumption) (by assumption) (by assumption) (by assumption)|exact E_ (by assumption) (by assumption)|exact Fa (by assumption) (by assumption)|exact Fb (by assumption) (by assumption)|exact Fc (by assumption) (by assumption) (by assumption)|exact E9 (by assumption) (by assumption)),S.z,ba,bK,bP,bo,eu,d51,d52,d53,(J.symm d70),jC⟩
  exact S.dF 17 .nil fun ac w β S=>⟨rfl,c0,dd,fD,_,_,_,(by clear S;first|exact Fe (by assumption) (by assumption) (by assumption) (by assumption)|exact E_ (by assumption) (by assumption)|exact Fa (by assumption) (by assumption)|exact Fb (by assumption) (by assumption)|exact Fc (by assumption) (by assumption) (by assumption)|exact E9 (by assumption) (by assumption)),S.z,ba,bK,bP,bo,eu,d51,d52,d53,(J.symm d70),jC⟩
 clear S bK bP bo ba eu eY
 rintro ac w ⟨aL,k5,oT,u,N,β,lR,S,hH,bK,bP,bo,eu,d269,d270,d271,d272,Rh⟩
 have aox:=ah_ lR (by omega)
 refine S.ex fun S=>?_
 refine S.go 2 .nil fun ac w β S=>?_
 refine dI ?_
 refine S.dP (f:=10) 9 (by kernel_rfl) (by kernel_rfl) fun w S=>?_
 refine S.hm 1 [0,1,2,3,4,5,6,7,8] [] [(103,.v (GT.val (dN (el (el h.I m.toNat).U g.toNat) (el (el h.I m.toNat).U g.toNat).aN.aX want).1 gk)),(104,.v (bg (k5.2 m.toNat).U.1.b ((k5.2 m.toNat).U.1.off+g.toNat*15)))] (.cons (cp hH.ak m Tryz.underlying28) (.cons (cz hH.ak 71 m.toNat 3 (R (el aL m.toNat).U.length (k5.2 m.toNat).U.1)) (.cons (cp (aU.U (d:=(el aL m.toNat)) (af.el hH.ak m.toNat (by omega))) g Tryz.underlying71) .nil))) fun ac S=>?_
 refine ar.one (i:=9) (by kernel_rfl) ?_
 obtain⟨alq,E2,wB,Xn⟩:=o_ hH (k:=m.toNat) (show m.toNat<aL.length by omega)
 have ao4:=af.le E2.ak
 have agG:=E2.sub
 refine id (S.kO (α:=ax) E2 (t:=70) (k:=g.toNat) (off:=(k5.2 m.toNat).U.1.off+g.toNat*15) eu (J.symm (J.symm (J.part (J.symm d272) wB))) fun w N alr apP S up Uq d282 ajy T2=>?_)
 refine ar.last (by kernel_rfl) ?_
 have d285:=d282 _ (J.symm (J.part (J.symm d269) wB)) d67 bK.sub
 have d286:=d282 _ (J.symm (J.part (J.symm d270) wB)) d68 bP.sub
 have d287:=d282 _ (J.symm (J.part (J.symm d271) wB)) d69 bo.sub
 replace bK:=bK.bw (J.symm (J.part (J.symm d269) wB)) up
 replace bP:=bP.bw (J.symm (J.part (J.symm d270) wB)) up
 replace bo:=bo.bw (J.symm (J.part (J.symm d271) wB)) up
 clear d282 E2
 obtain⟨UR,Ur,XV⟩:=Xn _ _ _ _ _ j4 up Uq ajy (J.symm d272) (by show [R _ _]=[R _ _];rw [List.length_set]) (fun b h=>T2 b (agG b h))
 clear up Uq T2
 have afL:(aL.set m.toNat ({el aL m.toNat with U:=((el aL m.toNat).U.set g.toNat (dN (el (el h.I m.toNat).U g.toNat) (el (el h.I m.toNat).U g.toNat).aN.aX want).1)})).length=aL.length:=List.length_set
 obtain⟨zx,RI⟩:∃z,z=aL.set m.toNat ({el aL m.toNat with U:=((el aL m.toNat).U.set g.toNat (dN (el (el h.I m.toNat).U g.toNat) (el (el h.I m.toNat).U g.toNat).aN.aX want).1)}):=⟨_,rfl⟩
 rw [←RI] at Ur XV afL
 obtain⟨ao5,amC⟩:=FP RI (show m.toNat<aL.length by omega) List.length_set
 replace S:=S.z (σ':=⟨[(5,.p 0 0),(10,.p 2 0),(103,.v (GT.val (dN (el (el h.I m.toNat).U g.toNat) (el (el h.I m.toNat).U g.toNat).aN.aX want).1 gk)),(104,.v (bg (k5.2 m.toNat).U.1.b ((k5.2 m.toNat).U.1.off+g.toNat*15)))],[[R h.mem.length ai.mem.1,R aL.length k5.1,R h.buf.length ai.buf.1,R h.ag.length ai.ag.1],GT.cells (el (el h.I m.toNat).U g.toNat) ((ai.I.2 m.toNat).U.2 g.toNat),ck ah,GT.cells (dN (el (el h.I m.toNat).U g.toNat) (el (el h.I m.toNat).U g.toNat).aN.aX want).1 gk]⟩)
 replace S:=S.cast (σ':=⟨[(5,.p 0 0),(10,.p 2 0),(103,.v (GT.val (dN (el (el h.I m.toNat).U g.toNat) (el (el h.I m.toNat).U g.toNat).aN.aX want).1 gk)),(104,.v (bg (k5.2 m.toNat).U.1.b ((k5.2 m.toNat).U.1.off+g.toNat*15)))],[[R h.mem.length ai.mem.1,R zx.length k5.1,R h.buf.length ai.buf.1,R h.ag.length ai.ag.1],GT.cells (el (el h.I m.toNat).U g.toNat) ((ai.I.2 m.toNat).U.2 g.toNat),ck ah,GT.cells (dN (el (el h.I m.toNat).U g.toNat) (el (el h.I m.toNat).U g.toNat).aN.aX want).1 gk]⟩) (by rw [show zx.length=aL.length by omega])
 refine ar.done (by kernel_rfl) ?_ _
 refine S.ex fun S=>?_
 refine S.bq 8 .nil [GT.val (⟨h.mem,zx,h.buf,h.ag⟩:ah) (⟨ai.mem,(k5.1,UR),ai.buf,ai.ag⟩:cb)] fun ac w β S=>?_
 have ahq:=fi (x:=(⟨h.mem,zx,h.buf,h.ag⟩:ah)) (p:=(⟨ai.mem,(k5.1,UR),ai.buf,ai.ag⟩:cb)) bK Ur bP bo (J.symm (J.or (J.symm d269) (J.symm d285))) d14 d15 (J.symm (J.symm (J.or (J.symm d270) (J.symm d286)))) (J.symm (J.symm (J.or (J.symm d271) (J.symm d287)))) d18
 exact B4 S (show s6 h m (jr (el h.I m.toNat) g (el (el h.I m.toNat).U g.toNat) want)=(⟨h.mem,zx,h.buf,h.ag⟩:ah) by clear S;(first|exact akf (by assumption) (by assumption))) rfl ahq
theorem Tw {p:Prop} (h:p:=by clear S;subst hn;(first|(rw [ow (.inl (by assumption))];done)|(rw [ow (.inr (by assumption))];done)|(rw [qb (by assumption) (by assumption),JO (by assumption)];rfl)|(rw [qb (by assumption) (by assumption),JP (by assumption)];rfl)|(rw [qb (by assumption) (by assumption)];exact Ea (by omega))|(rw [qb (by assumption) (by assumption)];exact Eb (by omega) (by omega) (by omega) (by omega)))):p:=h
theorem EC {p:Prop} (h:p:=by clear S;(first|(rw [ow (.inl (by assumption))];done)|(rw [ow (.inr (by assumption))];done)|(rw [qb (by assumption) (by assumption),JO (by assumption)];rfl)|(rw [qb (by assumption) (by assumption),JP (by assumption)];rfl)|(rw [qb (by assumption) (by assumption)];exact Ea (by omega))|(rw [qb (by assumption) (by assumption)];exact Eb (by omega) (by omega) (by omega) (by omega)))):p:=h
theorem TH {p:Prop} (h:p:=by clear S;subst hn;(first|(rw [ow (.inl (by assumption))];done)|(rw [ow (.inr (by assumption))];done)|(rw [qb (by assumption) (by assumption)];done))):p:=h
theorem ED {p:Prop} (h:p:=by clear S;(first|(rw [ow (.inl (by assumption))];done)|(rw [ow (.inr (by assumption))];done)|(rw [qb (by assumption) (by assumption)];done))):p:=h
theorem Zz (w0:World) (h:ah) (ai:cb) (a1:bT w0 h ai) (m:Int) (g:Int):Calls Tryz.prog 7 [GT.val h ai,aa m,aa g].toArray w0 (rC ab w0 ((dt h m g).1:ah) ((dt h m g).2:Bool)):=by
 refine Calls.run ab Tryz.func7 ?_
 intro ac β S
 have m1:h.mem.length<=4194304:=af.le (bz.mem (d:=h) a1)
 have m2:h.I.length<=4194304:=af.le (bz.I (d:=h) a1)
 have mZ:h.buf.length<=4194304:=af.le (bz.buf (d:=h) a1)
 have m0:h.ag.length<=4194304:=af.le (bz.ag (d:=h) a1)
 refine S.go 10 .nil fun ac w β S=>S.cN (r:=h) (d:=11) (ZU w h ai (S.rd (S.arg a1))) fun ac w N ae br S up aD d4=>?_
 clear up d4
 obtain⟨dO,eX,e3,fL,bJ,bE,bG,bh,_,_,_,_,d17,d18,d19,d20,d21,d22⟩:=jL aD
 refine S.bb 13 (.cons (aE fun w hw=>Z0 w h ae (bN (show GT.rd b7 _ _ h ae from⟨bJ.ak,bE.ak,bG.ak,bh.ak⟩) hw) m g) .nil) (!(mf h m g)) (fun ac w β rW S=>?_) (fun ac w β rW S=>?_)
 ·have gM:=cn rW
  refine S.bq 9 .nil [GT.val h ae,B false] fun ac w β S=>?_
  have dC:=fi (x:=h) (p:=ae) bJ bE bG bh d17 d18 d19 d20 d21 d22
  exact f_ (p':=()) S (show(dt h m g).1=h from EC) (show(dt h m g).2=false from ED) rfl rfl dC trivial
 have gN:=b_ rW
 have td:=FU gN
 have Xp:=tZ (el (el h.I m.toNat).U g.toNat)
 refine S.aI 38 (.cons (cp bE.ak m Tryz.underlying28) (.cons (cz bE.ak 71 m.toNat 3 (R (el h.I m.toNat).U.length (ae.I.2 m.toNat).U.1)) (.cons (cp (aU.U (d:=(el h.I m.toNat)) (af.el bE.ak m.toNat (by omega))) g Tryz.underlying71) (.cons (dy (aU.U (d:=(el h.I m.toNat)) (af.el bE.ak m.toNat (by omega))) 70 g.toNat) (.cons (aE fun w hw=>Hk w (el (el h.I m.toNat).U g.toNat) ((ae.I.2 m.toNat).U.2 g.toNat) (bN (af.el (aU.U (d:=(el h.I m.toNat)) (af.el bE.ak m.toNat (by omega))) g.toNat (by omega)) hw)) .nil))))) ((bZ (el (el h.I m.toNat).U g.toNat))==0) (fun ac w β i_ nL S=>?_) (fun ac w β i_ nL S=>?_)
 ·refine S.bq 9 .nil [GT.val h ae,B false] fun ac w β S=>?_
  have lY:=fi (x:=h) (p:=ae) bJ bE bG bh d17 d18 d19 d20 d21 d22
  exact f_ (p':=()) S (show(dt h m g).1=h from EC) (show(dt h m g).2=false from ED) rfl rfl lY trivial
 refine S.aI 7 .nil ((bZ (el (el h.I m.toNat).U g.toNat))==1) (fun ac w β pf z9 S=>?_) (fun ac w β pf z9 S=>?_)
 ·refine S.go 1 .nil fun ac w β S=>?_
  refine dI ?_
  refine S.dP (f:=11) 10 (by kernel_rfl) (by kernel_rfl) fun w S=>?_
  refine S.hm 3 [0,1,2,3,4,5,6,7] [] [(46,.v (R (el h.I m.toNat).U.length (ae.I.2 m.toNat).U.1)),(47,.v (aa g)),(48,.v (GT.val (el (el h.I m.toNat).U g.toNat) ((ae.I.2 m.toNat).U.2 g.toNat)))] (.cons (cp bE.ak m Tryz.underlying28) (.cons (cz bE.ak 71 m.toNat 3 (R (el h.I m.toNat).U.length (ae.I.2 m.toNat).U.1)) .nil)) fun ac S=>?_
  refine ar.one (i:=8) (by kernel_rfl) ?_
  refine id (S.dz 49 (ZB w (el (el h.I m.toNat).U g.toNat) ((ae.I.2 m.toNat).U.2 g.toNat) (S.rd (af.el (aU.U (d:=(el h.I m.toNat)) (af.el bE.ak m.toNat (by omega))) g.toNat (by omega)))) fun ac w N l7 n2 S up gY d37=>?_)
  refine ar.next S up (by kernel_rfl) ?_
  have d38:=J.w d37 bJ.sub
  have d39:=J.w d37 bE.sub
  have d40:=J.w d37 bG.sub
  have d41:=J.w d37 bh.sub
  replace bJ:=bJ.up up
  replace bE:=bE.up up
  replace bG:=bG.up up
  replace bh:=bh.up up
  clear up d37
  refine S.a9 9 [9] [] [(50,.v (bg (ae.I.2 m.toNat).U.1.b ((ae.I.2 m.toNat).U.1.off+g.toNat*15)))] (.cons (cp (aU.U (d:=(el h.I m.toNat)) (af.el bE.ak m.toNat (by omega))) g Tryz.underlying71) .nil) fun ac S=>?_
  refine ar.one (i:=10) (by kernel_rfl) ?_
  obtain⟨zg,k2,tU,OD⟩:=o_ bE (k:=m.toNat) (show m.toNat<h.I.length by omega)
  have afP:=af.le k2.ak
  have agP:=k2.sub
  refine id (S.kO (α:=ax) k2 (t:=70) (k:=g.toNat) (off:=(ae.I.2 m.toNat).U.1.off+g.toNat*15) gY (J.symm (J.symm (J.part d39 tU))) fun w N N6 apU S up tE d51 ajH T8=>?_)
  refine ar.last (by kernel_rfl) ?_
  have d54:=d51 _ (J.symm (J.part (J.symm d17) tU)) d38 bJ.sub
  have d55:=d51 _ (J.symm (J.part d20 tU)) d40 bG.sub
  have d56:=d51 _ (J.symm (J.part d21 tU)) d41 bh.sub
  replace bJ:=bJ.bw (J.symm (J.part (J.symm d17) tU)) up
  replace bG:=bG.bw (J.symm (J.part d20 tU)) up
  replace bh:=bh.bw (J.symm (J.part d21 tU)) up
  clear d51 k2
  obtain⟨nh,eu,amo⟩:=OD _ _ _ _ _ n2 up tE ajH d39 (by show [R _ _]=[R _ _];rw [List.length_set]) (fun b h=>T8 b (agP b h))
  clear up tE T8
  have TM:(h.I.set m.toNat ({el h.I m.toNat with U:=((el h.I m.toNat).U.set g.toNat (jq (el (el h.I m.toNat).U g.toNat)))})).length=h.I.length:=List.length_set
  replace S:=S.z (σ':=⟨[(3,.p 0 0),(6,.p 1 0),(49,.v (GT.val (jq (el (el h.I m.toNat).U g.toNat)) l7)),(50,.v (bg (ae.I.2 m.toNat).U.1.b ((ae.I.2 m.toNat).U.1.off+g.toNat*15)))],[[R h.mem.length ae.mem.1,R h.I.length ae.I.1,R h.buf.length ae.buf.1,R h.ag.length ae.ag.1],ck ah,GT.cells (el (el h.I m.toNat).U g.toNat) ((ae.I.2 m.toNat).U.2 g.toNat)]⟩)
  replace S:=S.cast (σ':=⟨[(3,.p 0 0),(6,.p 1 0),(49,.v (GT.val (jq (el (el h.I m.toNat).U g.toNat)) l7)),(50,.v (bg (ae.I.2 m.toNat).U.1.b ((ae.I.2 m.toNat).U.1.off+g.toNat*15)))],[[R h.mem.length ae.mem.1,R (h.I.set m.toNat ({el h.I m.toNat with U:=((el h.I m.toNat).U.set g.toNat (jq (el (el h.I m.toNat).U g.toNat)))})).length ae.I.1,R h.buf.length ae.buf.1,R h.ag.length ae.ag.1],ck ah,GT.cells (el (el h.I m.toNat).U g.toNat) ((ae.I.2 m.toNat).U.2 g.toNat)]⟩) (by rw [show(h.I.set m.toNat ({el h.I m.toNat with U:=((el h.I m.toNat).U.set g.toNat (jq (el (el h.I m.toNat).U g.toNat)))})).length=h.I.length by omega])
  refine ar.done (by kernel_rfl) ?_ _
  refine S.ex fun S=>?_
  refine S.bq 10 .nil [GT.val (⟨h.mem,(h.I.set m.toNat ({el h.I m.toNat with U:=((el h.I m.toNat).U.set g.toNat (jq (el (el h.I m.toNat).U g.toNat)))})),h.buf,h.ag⟩:ah) (⟨ae.mem,(ae.I.1,nh),ae.buf,ae.ag⟩:cb),B true] fun ac w β S=>?_
  have ez:=fi (x:=(⟨h.mem,(h.I.set m.toNat ({el h.I m.toNat with U:=((el h.I m.toNat).U.set g.toNat (jq (el (el h.I m.toNat).U g.toNat)))})),h.buf,h.ag⟩:ah)) (p:=(⟨ae.mem,(ae.I.1,nh),ae.buf,ae.ag⟩:cb)) bJ eu bG bh (J.symm (J.or (J.symm d17) (J.symm d54))) d18 d19 (J.symm (J.symm (J.or d20 (J.symm d55)))) (J.symm (J.symm (J.or d21 (J.symm d56)))) d22
  exact f_ (p':=()) S (show(dt h m g).1=(⟨h.mem,(h.I.set m.toNat ({el h.I m.toNat with U:=((el h.I m.toNat).U.set g.toNat (jq (el (el h.I m.toNat).U g.toNat)))})),h.buf,h.ag⟩:ah) from EC) (show(dt h m g).2=true from ED) rfl rfl ez trivial
 refine S.aI 7 .nil ((bZ (el (el h.I m.toNat).U g.toNat))==2) (fun ac w β uZ DM S=>?_) (fun ac w β uZ DM S=>?_)
 ·refine S.go 1 .nil fun ac w β S=>?_
  refine dI ?_
  refine S.dP (f:=11) 10 (by kernel_rfl) (by kernel_rfl) fun w S=>?_
  refine S.hm 3 [0,1,2,3,4,5,6,7] [] [(58,.v (R (el h.I m.toNat).U.length (ae.I.2 m.toNat).U.1)),(59,.v (aa g)),(60,.v (GT.val (el (el h.I m.toNat).U g.toNat) ((ae.I.2 m.toNat).U.2 g.toNat)))] (.cons (cp bE.ak m Tryz.underlying28) (.cons (cz bE.ak 71 m.toNat 3 (R (el h.I m.toNat).U.length (ae.I.2 m.toNat).U.1)) .nil)) fun ac S=>?_
  refine ar.one (i:=8) (by kernel_rfl) ?_
  refine id (S.dz 61 (ZI w (el (el h.I m.toNat).U g.toNat) ((ae.I.2 m.toNat).U.2 g.toNat) (S.rd (af.el (aU.U (d:=(el h.I m.toNat)) (af.el bE.ak m.toNat (by omega))) g.toNat (by omega)))) fun ac w N BZ sM S up g7 d67=>?_)
  refine ar.next S up (by kernel_rfl) ?_
  have d68:=J.w d67 bJ.sub
  have d69:=J.w d67 bE.sub
  have d70:=J.w d67 bG.sub
  have d71:=J.w d67 bh.sub
  replace bJ:=bJ.up up
  replace bE:=bE.up up
  replace bG:=bG.up up
  replace bh:=bh.up up
  clear up d67
  refine S.a9 9 [9] [] [(62,.v (bg (ae.I.2 m.toNat).U.1.b ((ae.I.2 m.toNat).U.1.off+g.toNat*15)))] (.cons (cp (aU.U (d:=(el h.I m.toNat)) (af.el bE.ak m.toNat (by omega))) g Tryz.underlying71) .nil) fun ac S=>?_
  refine ar.one (i:=10) (by kernel_rfl) ?_
  obtain⟨oT,hH,sB,XF⟩:=o_ bE (k:=m.toNat) (show m.toNat<h.I.length by omega)
  have afU:=af.le hH.ak
  have agU:=hH.sub
  refine id (S.kO (α:=ax) hH (t:=70) (k:=g.toNat) (off:=(ae.I.2 m.toNat).U.1.off+g.toNat*15) g7 (J.symm (J.symm (J.part d69 sB))) fun w N w2 rk S up l0 d81 Nm Ub=>?_)
  refine ar.last (by kernel_rfl) ?_
  have d84:=d81 _ (J.symm (J.part (J.symm d17) sB)) d68 bJ.sub
  have d85:=d81 _ (J.symm (J.part d20 sB)) d70 bG.sub
  have d86:=d81 _ (J.symm (J.part d21 sB)) d71 bh.sub
  replace bJ:=bJ.bw (J.symm (J.part (J.symm d17) sB)) up
  replace bG:=bG.bw (J.symm (J.part d20 sB)) up
  replace bh:=bh.bw (J.symm (J.part d21 sB)) up
  clear d81 hH
  obtain⟨U3,LV,amp⟩:=XF _ _ _ _ _ sM up l0 Nm d69 (by show [R _ _]=[R _ _];rw [List.length_set]) (fun b h=>Ub b (agU b h))
  clear up l0 Ub
  have apv:(h.I.set m.toNat ({el h.I m.toNat with U:=((el h.I m.toNat).U.set g.toNat (gu (el (el h.I m.toNat).U g.toNat)))})).length=h.I.length:=List.length_set
  replace S:=S.z (σ':=⟨[(3,.p 0 0),(6,.p 1 0),(61,.v (GT.val (gu (el (el h.I m.toNat).U g.toNat)) BZ)),(62,.v (bg (ae.I.2 m.toNat).U.1.b ((ae.I.2 m.toNat).U.1.off+g.toNat*15)))],[[R h.mem.length ae.mem.1,R h.I.length ae.I.1,R h.buf.length ae.buf.1,R h.ag.length ae.ag.1],ck ah,GT.cells (el (el h.I m.toNat).U g.toNat) ((ae.I.2 m.toNat).U.2 g.toNat)]⟩)
  replace S:=S.cast (σ':=⟨[(3,.p 0 0),(6,.p 1 0),(61,.v (GT.val (gu (el (el h.I m.toNat).U g.toNat)) BZ)),(62,.v (bg (ae.I.2 m.toNat).U.1.b ((ae.I.2 m.toNat).U.1.off+g.toNat*15)))],[[R h.mem.length ae.mem.1,R (h.I.set m.toNat ({el h.I m.toNat with U:=((el h.I m.toNat).U.set g.toNat (gu (el (el h.I m.toNat).U g.toNat)))})).length ae.I.1,R h.buf.length ae.buf.1,R h.ag.length ae.ag.1],ck ah,GT.cells (el (el h.I m.toNat).U g.toNat) ((ae.I.2 m.toNat).U.2 g.toNat)]⟩) (by rw [show(h.I.set m.toNat ({el h.I m.toNat with U:=((el h.I m.toNat).U.set g.toNat (gu (el (el h.I m.toNat).U g.toNat)))})).length=h.I.length by omega])
  refine ar.done (by kernel_rfl) ?_ _
  refine S.ex fun S=>?_
  refine S.bq 10 .nil [GT.val (⟨h.mem,(h.I.set m.toNat ({el h.I m.toNat with U:=((el h.I m.toNat).U.set g.toNat (gu (el (el h.I m.toNat).U g.toNat)))})),h.buf,h.ag⟩:ah) (⟨ae.mem,(ae.I.1,U3),ae.buf,ae.ag⟩:cb),B true] fun ac w β S=>?_
  have l1:=fi (x:=(⟨h.mem,(h.I.set m.toNat ({el h.I m.toNat with U:=((el h.I m.toNat).U.set g.toNat (gu (el (el h.I m.toNat).U g.toNat)))})),h.buf,h.ag⟩:ah)) (p:=(⟨ae.mem,(ae.I.1,U3),ae.buf,ae.ag⟩:cb)) bJ LV bG bh (J.symm (J.or (J.symm d17) (J.symm d84))) d18 d19 (J.symm (J.symm (J.or d20 (J.symm d85)))) (J.symm (J.symm (J.or d21 (J.symm d86)))) d22
  exact f_ (p':=()) S (show(dt h m g).1=(⟨h.mem,(h.I.set m.toNat ({el h.I m.toNat with U:=((el h.I m.toNat).U.set g.toNat (gu (el (el h.I m.toNat).U g.toNat)))})),h.buf,h.ag⟩:ah) from EC) (show(dt h m g).2=true from ED) rfl rfl l1 trivial
 refine S.go 8 .nil fun ac w β S=>?_
 refine S.pV ⟨[(1,.v (aa m)),(2,.v (aa g)),(3,.p 0 0),(6,.p 1 0),(8,.p 2 0),(9,.v (aa (bZ (el (el h.I m.toNat).U g.toNat)))),(63,.v (B (((bZ (el (el h.I m.toNat).U g.toNat))==3)||((bZ (el (el h.I m.toNat).U g.toNat))==4))))],[[R h.mem.length ae.mem.1,R h.I.length ae.I.1,R h.buf.length ae.buf.1,R h.ag.length ae.ag.1],ck ah,GT.cells (el (el h.I m.toNat).U g.toNat) ((ae.I.2 m.toNat).U.2 g.toNat)]⟩ ?_ ?_
 ·clear S;intro S
  refine S.aI 0 .nil ((bZ (el (el h.I m.toNat).U g.toNat))==3) (fun ac w β IS DN S=>?_) (fun ac w β IS DN S=>?_)
  ·exact S.dF 2 .nil fun ac w β S=>⟨rfl,_,by rw [IS];exact S.z⟩
  exact S.dF 5 .nil fun ac w β S=>⟨rfl,_,by rw [IS];exact S.z⟩
 clear S;intro ac w β S
 refine S.bb 1 .nil (((bZ (el (el h.I m.toNat).U g.toNat))==3)||((bZ (el (el h.I m.toNat).U g.toNat))==4)) (fun ac w β x7 S=>?_) (fun ac w β x7 S=>?_)
 ·have anN:=Dx x7
  have gH:=fi (x:=h) (p:=ae) bJ bE bG bh d17 d18 d19 d20 d21 d22
  obtain⟨av,hn⟩:∃z,z=(mg h m g (el (el h.I m.toNat).U g.toNat) ((bZ (el (el h.I m.toNat).U g.toNat))==4)):=⟨_,rfl⟩
  refine S.go 8 .nil fun ac w β S=>S.Oc (d:=72) gH hn (Z1 w h ae (j1 [dO,eX,e3,fL]) (S.fX gH) (fun b hb=>(S.sep b (gH.sub b hb)).1) m g ((bZ (el (el h.I m.toNat).U g.toNat))==4) (by(first|assumption|omega)) (by(first|assumption|omega))) fun ac w N gQ gd S up my d100=>?_
  clear up d100 gH
  obtain⟨jv,iM,ij,Wf,oD,nP,Bo,qi,_,_,_,_,d113,d114,d115,d116,d117,d118⟩:=jL my
  refine S.bq 12 .nil [GT.val av gQ,B true] fun ac w β S=>?_
  have px:=fi (x:=av) (p:=gQ) oD nP Bo qi d113 d114 d115 d116 d117 d118
  exact f_ (p':=()) S (show(dt h m g).1=av from Tw) (show(dt h m g).2=true from TH) rfl rfl px trivial
 obtain⟨acD,acE⟩:=nU x7
 have anr:¬((bZ (el (el h.I m.toNat).U g.toNat))=3):=ne_of_beq_false acD
 have Rc:¬((bZ (el (el h.I m.toNat).U g.toNat))=4):=ne_of_beq_false acE
 have q6:=fi (x:=h) (p:=ae) bJ bE bG bh d17 d18 d19 d20 d21 d22
 obtain⟨av,hn⟩:∃z,z=(s6 h m (jr (el h.I m.toNat) g (el (el h.I m.toNat).U g.toNat) (bZ (el (el h.I m.toNat).U g.toNat)))):=⟨_,rfl⟩
 refine S.go 7 .nil fun ac w β S=>S.Oc (d:=35) q6 hn (Z2 w h ae (j1 [dO,eX,e3,fL]) (S.fX q6) (fun b hb=>(S.sep b (q6.sub b hb)).1) m g (bZ (el (el h.I m.toNat).U g.toNat)) (by(first|assumption|omega)) (by(first|assumption|omega))) fun ac w N Fu NQ S up v5 d128=>?_
 clear up d128 q6
 obtain⟨zd,NR,ak7,ak_,mx,Bq,Lg,jJ,_,_,_,_,d141,d142,d143,d144,d145,d146⟩:=jL v5
 refine S.bq 12 .nil [GT.val av Fu,B true] fun ac w β S=>?_
 have q7:=fi (x:=av) (p:=Fu) mx Bq Lg jJ d141 d142 d143 d144 d145 d146
 exact f_ (p':=()) S (show(dt h m g).1=av from Tw) (show(dt h m g).2=true from TH) rfl rfl q7 trivial
theorem xe (w0:World) (l:List Int) (pl:aC Int) (hl:bT w0 l pl):Calls Tryz.prog 238 [R l.length pl.1].toArray w0 (dw ab w0 (l:List Int)):=by
 refine Calls.run ab Tryz.func238 ?_
 intro ac β S
 have yh:l.length<=4194304:=af.le hl
 refine S.go 7 .nil fun ac w β S=>S.gR (α:=Int) (d:=3) fun ac w N ae br S up aD d4=>?_
 clear up d4
 have ux:l.length<=4194304:=af.le (S.arg hl)
 refine S.go 1 .nil fun ac w β S=>S.lC (α:=Int) aD (S.arg hl) (fun _ _ h=>h) (by':=8) (d:=5) (lx:=0) (ly:=l.length) rfl fun ac w N bL cW S up ao d8=>?_
 clear up d8
 refine S.bq 4 .nil [R l.length bL.1] fun ac w β S=>?_
 exact cx S (show l=l by clear S;simp) rfl ao
theorem o4 (w0:World) (l:List (List Int)) (pl:aC (List Int)) (hl:bT w0 l pl):Calls Tryz.prog 126 [R l.length pl.1].toArray w0 (dw ab w0 (l:List (List Int))):=by
 refine Calls.run ab Tryz.func126 ?_
 intro ac β S
 have yh:l.length<=4194304:=af.le hl
 refine S.go 7 .nil fun ac w β S=>S.gR (α:=List Int) (d:=6) fun ac w N ae br S up aD d4=>?_
 clear up d4
 refine S.go 12 .nil fun ac w β S=>?_
 refine dc (fun a5 ac w=>∃(k:Nat) (acc:List (List Int)) (bL:_) (cW:_) (u:_) (N:_) (β:_),a5=l.length-k/\(k<=l.length)/\(acc=l.take k)/\aj Tryz.prog Tryz.f126.ntmps w0 ab u N β ⟨[(3,.v (R acc.length bL.1)),(7,.v (R l.length pl.1)),(8,.v (aa (l.length:Int))),(9,.v (aa (k:Int)))],[]⟩ ac w/\ad w0 ab u N cW acc bL) _ ⟨0,([]:List (List Int)),ae,br,_,_,_,rfl,cv,(by simp),S.z,aD⟩ ?_
 clear S aD
 rintro f8 a5 eT ac w ⟨k,acc,bL,cW,u,N,β,rfl,hk,bt,S,ao⟩
 refine S.rs fun S=>?_
 have gD:acc.length=k:=by rw [bt];simp;omega
 refine S.aI 6 .nil (decide ((k:Int)<(l.length:Int))) (fun ac w β c3 dY S=>?_) (fun ac w β c3 dY S=>?_)
 ·refine S.go 15 (.cons (b6 (S.arg hl) k Tryz.underlying22) (.cons (cj (S.arg hl) 38 k) .nil)) fun ac w β S=>S.cN (r:=(el l k)) (d:=15) (xe w (el l k) (pl.2 k) (S.rd (af.el (S.arg hl) k (by omega)))) fun ac w N jK gb S up c4 d15=>?_
  have d16:=J.w d15 ao.sub
  replace ao:=ao.up up
  clear up d15
  refine S.iL (α:=List Int) (x:=(el l k)) (p:=jK) c4.own c4.sub c4.dJ (d:=16) fun ac w N wm kn S up iD d20=>?_
  have d21:=d20 _ d16 ao.sub
  replace ao:=ao.up up
  clear up d20
  refine S.wP (α:=List Int) ao iD d21 (by':=24) (d:=17) (lx:=acc.length) (ly:=1) rfl rfl (show _<=4194304 by simp only [List.length_append,List.length_cons,List.length_nil];omega) fun ac w N wq wV S up jX d25=>?_
  clear up d25
  refine S.ge 8 (.cons (cg (k:Int) 1) .nil) f8 fun ac w β S=>eT.of (l.length-(k+1)) _ _ (by omega) ⟨k+1,(acc++[(el l k)]),wq,wV,_,_,_,rfl,?_,?_,S.z,jX⟩
  ·exact cO
  ·clear S;(first|(rw [jh (by omega),bt];done)|(rw [jh (by omega),bt];simp;done))
 refine S.bq 13 .nil [R acc.length bL.1] fun ac w β S=>?_
 exact cx S (show l=acc by clear S;(rw [bt,fb (by omega)])) rfl ao
theorem C9 (w0:World) (l:List aQ) (pl:aC aQ) (hl:bT w0 l pl):Calls Tryz.prog 239 [R l.length pl.1].toArray w0 (dw ab w0 (l:List aQ)):=by
 refine Calls.run ab Tryz.func239 ?_
 intro ac β S
 have yh:l.length<=4194304:=af.le hl
 refine S.go 7 .nil fun ac w β S=>S.gR (α:=aQ) (d:=3) fun ac w N ae br S up aD d4=>?_
 clear up d4
 have ux:l.length<=4194304:=af.le (S.arg hl)
 refine S.go 1 .nil fun ac w β S=>S.lC (α:=aQ) aD (S.arg hl) (fun _ _ h=>h) (by':=16) (d:=5) (lx:=0) (ly:=l.length) rfl fun ac w N bL cW S up ao d8=>?_
 clear up d8
 refine S.bq 4 .nil [R l.length bL.1] fun ac w β S=>?_
 exact cx S (show l=l by clear S;simp) rfl ao
theorem Yx (w0:World) (l:List c_) (pl:aC c_) (hl:bT w0 l pl):Calls Tryz.prog 253 [R l.length pl.1].toArray w0 (dw ab w0 (l:List c_)):=by
 refine Calls.run ab Tryz.func253 ?_
 intro ac β S
 have yh:l.length<=4194304:=af.le hl
 refine S.go 7 .nil fun ac w β S=>S.gR (α:=c_) (d:=3) fun ac w N ae br S up aD d4=>?_
 clear up d4
 have ux:l.length<=4194304:=af.le (S.arg hl)
 refine S.go 1 .nil fun ac w β S=>S.lC (α:=c_) aD (S.arg hl) (fun _ _ h=>h) (by':=16) (d:=5) (lx:=0) (ly:=l.length) rfl fun ac w N bL cW S up ao d8=>?_
 clear up d8
 refine S.bq 4 .nil [R l.length bL.1] fun ac w β S=>?_
 exact cx S (show l=l by clear S;simp) rfl ao
theorem sT (w0:World) (g:ax) (bc:c6) (aJ:bT w0 g bc):Calls Tryz.prog 136 [GT.val g bc].toArray w0 (dw ab w0 (g:ax)):=by
 refine Calls.run ab Tryz.func136 ?_
 intro ac β S
 have iy:g.prog.length<=4194304:=af.le (az.prog (d:=g) aJ)
 have iA:g.written.length<=4194304:=af.le (az.written (d:=g) aJ)
 have ix:g.live.length<=4194304:=af.le (az.live (d:=g) aJ)
 have iz:g.seen.length<=4194304:=af.le (az.seen (d:=g) aJ)
 refine S.go 10 .nil fun ac w β S=>S.cN (r:=g.prog) (d:=5) (Yx w g.prog bc.prog (S.rd (az.prog (d:=g) (S.arg aJ)))) fun ac w N ae br S up aD d4=>?_
 clear up d4
 refine S.go 8 .nil fun ac w β S=>S.cN (r:=g.written) (d:=9) (C9 w g.written bc.written (S.rd (az.written (d:=g) (S.arg aJ)))) fun ac w N bL cW S up ao d8=>?_
 have d9:=J.w d8 aD.sub
 replace aD:=aD.up up
 clear up d8
 refine S.go 8 .nil fun ac w β S=>S.cN (r:=g.live) (d:=13) (C9 w g.live bc.live (S.rd (az.live (d:=g) (S.arg aJ)))) fun ac w N fY e3 S up bG d13=>?_
 have d14:=J.w d13 aD.sub
 have d15:=J.w d13 ao.sub
 replace aD:=aD.up up
 replace ao:=ao.up up
 clear up d13
 refine S.go 8 .nil fun ac w β S=>S.cN (r:=g.seen) (d:=17) (xe w g.seen bc.seen (S.rd (az.seen (d:=g) (S.arg aJ)))) fun ac w N cG cC S up eU d19=>?_
 have d20:=J.w d19 aD.sub
 have d21:=J.w d19 ao.sub
 have d22:=J.w d19 bG.sub
 replace aD:=aD.up up
 replace ao:=ao.up up
 replace bG:=bG.up up
 clear up d19
 refine S.bq 11 .nil [GT.val (⟨g.prog,g.acc,g.aw,g.written,g.live,g.aN,g.aB,g.exit,g.halted,g.seen⟩:ax) (⟨ae,bL,fY,cG⟩:c6)] fun ac w β S=>?_
 have ba:=hI (x:=(⟨g.prog,g.acc,g.aw,g.written,g.live,g.aN,g.aB,g.exit,g.halted,g.seen⟩:ax)) (p:=(⟨ae,bL,fY,cG⟩:c6)) aD ao bG eU d9 d14 d20 d15 d21 d22 (az.acc (d:=g) (S.arg aJ)) (az.aw (d:=g) (S.arg aJ)) (az.aN (d:=g) (S.arg aJ)) (az.aB (d:=g) (S.arg aJ)) (az.exit (d:=g) (S.arg aJ))
 exact cx S (show g=(⟨g.prog,g.acc,g.aw,g.written,g.live,g.aN,g.aB,g.exit,g.halted,g.seen⟩:ax) by clear S;(first|rfl|simp)) rfl ba
theorem Pn (w0:World) (l:List ax) (pl:aC ax) (hl:bT w0 l pl):Calls Tryz.prog 240 [R l.length pl.1].toArray w0 (dw ab w0 (l:List ax)):=by
 refine Calls.run ab Tryz.func240 ?_
 intro ac β S
 have yh:l.length<=4194304:=af.le hl
 refine S.go 7 .nil fun ac w β S=>S.gR (α:=ax) (d:=6) fun ac w N ae br S up aD d4=>?_
 clear up d4
 refine S.go 12 .nil fun ac w β S=>?_
 refine dc (fun a5 ac w=>∃(k:Nat) (acc:List ax) (bL:_) (cW:_) (u:_) (N:_) (β:_),a5=l.length-k/\(k<=l.length)/\(acc=l.take k)/\aj Tryz.prog Tryz.f240.ntmps w0 ab u N β ⟨[(3,.v (R acc.length bL.1)),(7,.v (R l.length pl.1)),(8,.v (aa (l.length:Int))),(9,.v (aa (k:Int)))],[]⟩ ac w/\ad w0 ab u N cW acc bL) _ ⟨0,([]:List ax),ae,br,_,_,_,rfl,cv,(by simp),S.z,aD⟩ ?_
 clear S aD
 rintro f8 a5 eT ac w ⟨k,acc,bL,cW,u,N,β,rfl,hk,bt,S,ao⟩
 refine S.rs fun S=>?_
 have gD:acc.length=k:=by rw [bt];simp;omega
 refine S.aI 6 .nil (decide ((k:Int)<(l.length:Int))) (fun ac w β c3 dY S=>?_) (fun ac w β c3 dY S=>?_)
 ·refine S.go 16 (.cons (b6 (S.arg hl) k Tryz.underlying71) (.cons (dy (S.arg hl) 70 k) .nil)) fun ac w β S=>S.cN (r:=(el l k)) (d:=15) (sT w (el l k) (pl.2 k) (S.rd (af.el (S.arg hl) k (by omega)))) fun ac w N jK gb S up c4 d15=>?_
  have d16:=J.w d15 ao.sub
  replace ao:=ao.up up
  clear up d15
  refine S.iL (α:=ax) (x:=(el l k)) (p:=jK) c4.own c4.sub c4.dJ (d:=16) fun ac w N wm kn S up iD d20=>?_
  have d21:=d20 _ d16 ao.sub
  replace ao:=ao.up up
  clear up d20
  refine S.wP (α:=ax) ao iD d21 (by':=184) (d:=17) (lx:=acc.length) (ly:=1) rfl rfl (show _<=4194304 by simp only [List.length_append,List.length_cons,List.length_nil];omega) fun ac w N wq wV S up jX d25=>?_
  clear up d25
  refine S.ge 8 (.cons (cg (k:Int) 1) .nil) f8 fun ac w β S=>eT.of (l.length-(k+1)) _ _ (by omega) ⟨k+1,(acc++[(el l k)]),wq,wV,_,_,_,rfl,?_,?_,S.z,jX⟩
  ·exact cO
  ·clear S;(first|(rw [jh (by omega),bt];done)|(rw [jh (by omega),bt];simp;done))
 refine S.bq 13 .nil [R acc.length bL.1] fun ac w β S=>?_
 exact cx S (show l=acc by clear S;(rw [bt,fb (by omega)])) rfl ao
theorem C8 (w0:World) (k:bQ) (ej:fm) (hk:bT w0 k ej):Calls Tryz.prog 241 [GT.val k ej].toArray w0 (dw ab w0 (k:bQ)):=by
 refine Calls.run ab Tryz.func241 ?_
 intro ac β S
 have qU:k.known.length<=4194304:=af.le (er.known (d:=k) hk)
 have qV:k.aY.length<=4194304:=af.le (er.aY (d:=k) hk)
 refine S.go 7 .nil fun ac w β S=>?_
 refine dI ?_
 refine S.dP (f:=9) 8 (by kernel_rfl) (by kernel_rfl) fun w S=>?_
 refine S.hm 5 [1,2,4,5] [] [(5,.v (R k.known.length ej.known.1)),(8,.v (R k.aY.length ej.aY.1))] .nil fun ac S=>?_
 refine ar.one (i:=0) (by kernel_rfl) ?_
 refine id (S.fA (α:=Bool) (d:=3) (by kernel_rfl) fun ac w N ae br S up aD d4=>?_)
 have AI:=fun b h=>(⟨(up b h).1,(up b h).2,d4 b h⟩:_/\_/\_)
 refine ar.keep S up (by kernel_rfl) ?_
 clear up d4
 refine ar.one (i:=3) (by kernel_rfl) ?_
 have CX:k.known.length<=4194304:=af.le (er.known (d:=k) (S.arg hk))
 refine id (S.lH (α:=Bool) aD (er.known (d:=k) (S.arg hk)) (fun _ _ h=>h) (by':=1) (d:=6) (lx:=0) (ly:=k.known.length) rfl fun ac w N kh e5 S up bP d9=>?_)
 have adZ:=fun b h=>(⟨(up b (AI b h).1 (AI b h).2.2).1,(up b (AI b h).1 (AI b h).2.2).2.trans (AI b h).2.1⟩:_/\_)
 refine ar.next S adZ (by kernel_rfl) ?_
 clear up d9
 refine ar.one (i:=6) (by kernel_rfl) ?_
 refine id (S.dz 9 (C9 w k.aY ej.aY (S.rd (er.aY (d:=k) (S.arg hk)))) fun ac w N jK gb S up c4 d15=>?_)
 refine ar.next S up (by kernel_rfl) ?_
 have d16:=J.w d15 bP.sub
 replace bP:=bP.up up
 clear up d15
 refine S.a9 7 [7] [] [(10,.v (GT.val (⟨k.known,k.aY⟩:bQ) (⟨kh,jK⟩:fm)))] (.cons (fT (s:=Instr.build 165 [(0,R k.known.length kh.1),(1,R k.aY.length jK.1)].toArray) (v:= .agg [R k.known.length kh.1,R k.aY.length jK.1].toArray) (fun w=>by kernel_rfl)) .nil) fun ac S=>?_
 refine S.c9 8 [] [] 2 [(1,[R k.known.length kh.1,R k.aY.length jK.1])] .nil fun ac w β S=>?_
 refine ar.done (by kernel_rfl) ?_ _
 refine S.ex fun S=>?_
 refine S.bq 2 .nil [GT.val (⟨k.known,k.aY⟩:bQ) (⟨kh,jK⟩:fm)] fun ac w β S=>?_
 have eo:=l4 (x:=(⟨k.known,k.aY⟩:bQ)) (p:=(⟨kh,jK⟩:fm)) bP c4 d16
 exact cx S (show k=(⟨k.known,k.aY⟩:bQ) by clear S;(first|rfl|simp)) rfl eo
theorem Pp (w0:World) (m:aO) (pm:fj) (hm:bT w0 m pm):Calls Tryz.prog 127 [GT.val m pm].toArray w0 (dw ab w0 (m:aO)):=by
 refine Calls.run ab Tryz.func127 ?_
 intro ac β S
 have JB:m.outer.length<=4194304:=af.le (aU.outer (d:=m) hm)
 have JA:m.out.length<=4194304:=af.le (aU.out (d:=m) hm)
 have Jy:m.aT.length<=4194304:=af.le (aU.aT (d:=m) hm)
 have Jz:m.U.length<=4194304:=af.le (aU.U (d:=m) hm)
 have JC:m.outs.length<=4194304:=af.le (aU.outs (d:=m) hm)
 have JD:m.tables.length<=4194304:=af.le (aU.tables (d:=m) hm)
 refine S.go 10 .nil fun ac w β S=>S.cN (r:=m.outer) (d:=8) (C9 w m.outer pm.outer (S.rd (aU.outer (d:=m) (S.arg hm)))) fun ac w N ae br S up aD d4=>?_
 clear up d4
 refine S.go 8 .nil fun ac w β S=>S.cN (r:=m.out) (d:=12) (o4 w m.out pm.out (S.rd (aU.out (d:=m) (S.arg hm)))) fun ac w N bL cW S up ao d8=>?_
 have d9:=J.w d8 aD.sub
 replace aD:=aD.up up
 clear up d8
 refine S.go 6 .nil fun ac w β S=>S.gR (α:=Bool) (d:=14) fun ac w N fY e3 S up bG d13=>?_
 have d14:=J.w d13 aD.sub
 have d15:=J.w d13 ao.sub
 replace aD:=aD.up up
 replace ao:=ao.up up
 clear up d13
 have alZ:m.aT.length<=4194304:=af.le (aU.aT (d:=m) (S.arg hm))
 refine S.go 2 .nil fun ac w β S=>S.lC (α:=Bool) bG (aU.aT (d:=m) (S.arg hm)) (fun _ _ h=>h) (by':=1) (d:=17) (lx:=0) (ly:=m.aT.length) rfl fun ac w N cG cC S up eU d19=>?_
 have d21:=d19 _ d14 aD.sub
 have d22:=d19 _ d15 ao.sub
 replace aD:=aD.bw d14 up
 replace ao:=ao.bw d15 up
 clear up d19
 refine S.go 8 .nil fun ac w β S=>S.cN (r:=m.U) (d:=21) (Pn w m.U pm.U (S.rd (aU.U (d:=m) (S.arg hm)))) fun ac w N e2 mE S up dC d26=>?_
 have d27:=J.w d26 aD.sub
 have d28:=J.w d26 ao.sub
 have d29:=J.w d26 eU.sub
 replace aD:=aD.up up
 replace ao:=ao.up up
 replace eU:=eU.up up
 clear up d26
 refine S.go 8 .nil fun ac w β S=>S.cN (r:=m.outs) (d:=25) (xe w m.outs pm.outs (S.rd (aU.outs (d:=m) (S.arg hm)))) fun ac w N mA qx S up fV d33=>?_
 have d34:=J.w d33 aD.sub
 have d35:=J.w d33 ao.sub
 have d36:=J.w d33 eU.sub
 have d37:=J.w d33 dC.sub
 replace aD:=aD.up up
 replace ao:=ao.up up
 replace eU:=eU.up up
 replace dC:=dC.up up
 clear up d33
 refine S.go 6 .nil fun ac w β S=>S.gR (α:=bQ) (d:=27) fun ac w N lu wW S up kc d41=>?_
 have d42:=J.w d41 aD.sub
 have d43:=J.w d41 ao.sub
 have d44:=J.w d41 eU.sub
 have d45:=J.w d41 dC.sub
 have d46:=J.w d41 fV.sub
 replace aD:=aD.up up
 replace ao:=ao.up up
 replace eU:=eU.up up
 replace dC:=dC.up up
 replace fV:=fV.up up
 clear up d41
 refine S.go 13 .nil fun ac w β S=>?_
 refine dc (fun a5 ac w=>∃(k:Nat) (acc:List bQ) (tO:_) (ui:_) (u:_) (N:_) (β:_),a5=m.tables.length-k/\(k<=m.tables.length)/\(acc=m.tables.take k)/\aj Tryz.prog Tryz.f127.ntmps w0 ab u N β ⟨[(1,.p 0 0),(2,.p 1 0),(3,.v (R acc.length tO.1)),(29,.v (R m.tables.length pm.tables.1)),(30,.v (aa (m.tables.length:Int))),(31,.v (aa (k:Int)))],[[R m.outer.length ae.1,R m.out.length bL.1,R m.aT.length cG.1,R m.U.length e2.1,R m.outs.length mA.1,aa m.aB,aa m.aX,R m.tables.length pm.tables.1,aa m.owned],ck aO]⟩ ac w/\ad w0 ab u N ui acc tO/\ad w0 ab u N br m.outer ae/\ad w0 ab u N cW m.out bL/\ad w0 ab u N cC m.aT cG/\ad w0 ab u N mE m.U e2/\ad w0 ab u N qx m.outs mA/\J ui br/\J ui cW/\J ui cC/\J ui mE/\J ui qx) _ ⟨0,([]:List bQ),lu,wW,_,_,_,rfl,cv,(by simp),S.z,kc,aD,ao,eU,dC,fV,(J.symm d42),(J.symm d43),(J.symm d44),(J.symm d45),(J.symm d46)⟩ ?_
 clear S eU dC aD fV kc ao
 rintro f55 a5 ad7 ac w ⟨k,acc,tO,ui,u,N,β,rfl,hk,bt,S,hS,aD,ao,eU,dC,fV,d50,d51,d52,d53,d54⟩
 refine S.rs fun S=>?_
 have gD:acc.length=k:=by rw [bt];simp;omega
 refine S.aI 6 .nil (decide ((k:Int)<(m.tables.length:Int))) (fun ac w β Ah te S=>?_) (fun ac w β Ah te S=>?_)
 ·refine S.go 16 (.cons (b6 (aU.tables (d:=m) (S.arg hm)) k Tryz.underlying72) (.cons (dy (aU.tables (d:=m) (S.arg hm)) 165 k) .nil)) fun ac w β S=>S.cN (r:=(el m.tables k)) (d:=37) (C8 w (el m.tables k) (pm.tables.2 k) (S.rd (af.el (aU.tables (d:=m) (S.arg hm)) k (by omega)))) fun ac w N fS qB S up ez d62=>?_
  have d63:=J.w d62 hS.sub
  have d64:=J.w d62 aD.sub
  have d65:=J.w d62 ao.sub
  have d66:=J.w d62 eU.sub
  have d67:=J.w d62 dC.sub
  have d68:=J.w d62 fV.sub
  replace hS:=hS.up up
  replace aD:=aD.up up
  replace ao:=ao.up up
  replace eU:=eU.up up
  replace dC:=dC.up up
  replace fV:=fV.up up
  clear up d62
  refine S.iL (α:=bQ) (x:=(el m.tables k)) (p:=fS) ez.own ez.sub ez.dJ (d:=38) fun ac w N nY oS S up pz d72=>?_
  have d73:=d72 _ d63 hS.sub
  have d74:=d72 _ d64 aD.sub
  have d75:=d72 _ d65 ao.sub
  have d76:=d72 _ d66 eU.sub
  have d77:=d72 _ d67 dC.sub
  have d78:=d72 _ d68 fV.sub
  replace hS:=hS.up up
  replace aD:=aD.up up
  replace ao:=ao.up up
  replace eU:=eU.up up
  replace dC:=dC.up up
  replace fV:=fV.up up
  clear up d72
  refine S.wP (α:=bQ) hS pz d73 (by':=48) (d:=39) (lx:=acc.length) (ly:=1) rfl rfl (show _<=4194304 by simp only [List.length_append,List.length_cons,List.length_nil];omega) fun ac w N Vr zj S up nT d82=>?_
  have d83:=d82 _ (J.symm d50) d74 aD.sub
  have d84:=d82 _ (J.symm d51) d75 ao.sub
  have d85:=d82 _ (J.symm d52) d76 eU.sub
  have d86:=d82 _ (J.symm d53) d77 dC.sub
  have d87:=d82 _ (J.symm d54) d78 fV.sub
  replace aD:=aD.bw (J.symm d50) up
  replace ao:=ao.bw (J.symm d51) up
  replace eU:=eU.bw (J.symm d52) up
  replace dC:=dC.bw (J.symm d53) up
  replace fV:=fV.bw (J.symm d54) up
  clear up d82
  refine S.ge 8 (.cons (cg (k:Int) 1) .nil) f55 fun ac w β S=>ad7.of (m.tables.length-(k+1)) _ _ (by omega) ⟨k+1,(acc++[(el m.tables k)]),Vr,zj,_,_,_,rfl,?_,?_,S.z,nT,aD,ao,eU,dC,fV,(J.symm d83),(J.symm d84),(J.symm d85),(J.symm d86),(J.symm d87)⟩
  ·exact cO
  ·clear S;(first|(rw [jh (by omega),bt];done)|(rw [jh (by omega),bt];simp;done))
 refine S.bq 20 .nil [GT.val (⟨m.outer,m.out,m.aT,m.U,m.outs,m.aB,m.aX,acc,m.owned⟩:aO) (⟨ae,bL,cG,e2,mA,tO⟩:fj)] fun ac w β S=>?_
 have LV:=Ff (x:=(⟨m.outer,m.out,m.aT,m.U,m.outs,m.aB,m.aX,acc,m.owned⟩:aO)) (p:=(⟨ae,bL,cG,e2,mA,tO⟩:fj)) aD ao eU dC fV hS d9 d21 d27 d34 (J.symm d50) d22 d28 d35 (J.symm d51) d29 d36 (J.symm d52) d37 (J.symm d53) (J.symm d54) (aU.aB (d:=m) (S.arg hm)) (aU.aX (d:=m) (S.arg hm)) (aU.owned (d:=m) (S.arg hm))
 exact cx S (show m=(⟨m.outer,m.out,m.aT,m.U,m.outs,m.aB,m.aX,acc,m.owned⟩:aO) by clear S;(first|rfl|(rw [bt,fb (by omega)];done)|(rw [bt,fb (by omega)];simp;done)|simp)) rfl LV
theorem Po (w0:World) (h:ah) (ai:cb) (a1:bT w0 h ai):Calls Tryz.prog 38 [GT.val h ai].toArray w0 (dw ab w0 (h:ah)):=by
 refine Calls.run ab Tryz.func38 ?_
 intro ac β S
 have m1:h.mem.length<=4194304:=af.le (bz.mem (d:=h) a1)
 have m2:h.I.length<=4194304:=af.le (bz.I (d:=h) a1)
 have mZ:h.buf.length<=4194304:=af.le (bz.buf (d:=h) a1)
 have m0:h.ag.length<=4194304:=af.le (bz.ag (d:=h) a1)
 refine S.go 7 .nil fun ac w β S=>?_
 refine dI ?_
 let bH:b1:=⟨[(1,.p 0 0),(2,.p 1 0)],[GT.cells h ai,ck ah]⟩
 obtain⟨bA,bx,bS,S⟩:∃bA bx bS,aj Tryz.prog Tryz.f38.ntmps w0 ab bA bx bS bH ac w:=⟨_,_,_,S.z⟩
 refine mD (fun ac w=>∃hJ jk jf jw iU iW u N β,aj Tryz.prog Tryz.f38.ntmps w0 ab u N β (bH.dl [] [(3,.p 2 0)] 3 [(2,[R h.mem.length iU.1,R ([]:List aO).length (GT.cY (α:=List aO)).1,R h.buf.length hJ.1,R h.ag.length jf.1])]) ac w/\ad w0 ab u N jk h.buf hJ/\ad w0 ab u N jw h.ag jf/\ad w0 ab u N iW h.mem iU/\J jk jw/\J jk iW/\J jw iW) ?_ ?_
 ·refine S.dP (f:=14) 13 (by kernel_rfl) (by kernel_rfl) fun w S=>?_
  refine S.hm 8 [0,1,4,5,8,9] [] [(7,.v (R h.mem.length ai.mem.1)),(11,.v (R h.buf.length ai.buf.1)),(15,.v (R h.ag.length ai.ag.1))] .nil fun ac S=>?_
  refine ar.m8 fun W aH=>?_
  refine ar.mP (l':=cu 14 [0,1,4,5,8,9]) (by kernel_rfl) ?_
  have IV ac w hJ jk jf jw iU iW u N β (S:aj Tryz.prog Tryz.f38.ntmps w0 ab u N β (bH.dl [] [(3,.p 2 0)] 3 [(2,[R h.mem.length iU.1,R ([]:List aO).length (GT.cY (α:=List aO)).1,R h.buf.length hJ.1,R h.ag.length jf.1])]) ac w) (fR:ad w0 ab u N jk h.buf hJ) (gF:ad w0 ab u N jw h.ag jf) (gX:ad w0 ab u N iW h.mem iU) (d240:J jk jw) (d241:J jk iW) (d242:J jw iW):W 0 (cu 14 [0,1,2,3,4,5,6,7,8,9,10,11,12,13]) ac w:=by
   exact nb aH ⟨rfl,hJ,jk,jf,jw,iU,iW,_,_,_,S.z,fR,gF,gX,d240,d241,d242⟩
  have An ac w nn kq np kR lr kp u N β (S:aj Tryz.prog Tryz.f38.ntmps w0 ab u N β (bH.dl [] [(3,.p 2 0),(17,.v (GT.val (⟨h.mem,([]:List aO),h.buf,h.ag⟩:ah) (⟨lr,(GT.cY (α:=List aO)),nn,np⟩:cb)))] 3 [(2,ck ah)]) ac w) (lX:ad w0 ab u N kq h.buf nn) (sn:ad w0 ab u N kR h.ag np) (v_:ad w0 ab u N kp h.mem lr) (d244:J kq kR) (d245:J kq kp) (d246:J kR kp) (al:d_ bx bA N u) (aP:cS bH.aM.length bS β):W 1 (cu 14 [0,1,2,3,4,5,6,7,8,9,10,11,12]) ac w:=by
   exact en aH 13 (S.wl aH [] .nil fun _ _ _ S=>IV _ _ nn kq np kR lr kp _ _ _ S lX sn v_ d244 d245 d246)
  have IW ac w nn kq np kR lr kp u N β (S:aj Tryz.prog Tryz.f38.ntmps w0 ab u N β (bH.dl [] [(17,.v (GT.val (⟨h.mem,([]:List aO),h.buf,h.ag⟩:ah) (⟨lr,(GT.cY (α:=List aO)),nn,np⟩:cb)))] 2 []) ac w) (lX:ad w0 ab u N kq h.buf nn) (sn:ad w0 ab u N kR h.ag np) (v_:ad w0 ab u N kp h.mem lr) (d248:J kq kR) (d249:J kq kp) (d250:J kR kp) (al:d_ bx bA N u) (aP:cS bH.aM.length bS β):W 2 (cu 14 [0,1,2,3,4,5,6,7,8,9,10,11]) ac w:=by
   exact en aH 12 (S.e0 aH al aP [] .nil fun _ _ _ S ca=>An _ _ nn kq np kR lr kp _ _ _ S lX sn v_ d248 d249 d250 al ca)
  have Ao ac w dL dU je jP bX bU u N β (S:aj Tryz.prog Tryz.f38.ntmps w0 ab u N β (bH.dl [] [(3,.p 2 0),(8,.v (R h.mem.length bX.1)),(12,.v (R h.buf.length dL.1)),(16,.v (R h.ag.length je.1))] 3 [(2,ck ah)]) ac w) (ev:ad w0 ab u N dU h.buf dL) (qj:ad w0 ab u N jP h.ag je) (ao:ad w0 ab u N bU h.mem bX) (d252:J dU jP) (d253:J dU bU) (d254:J jP bU) (al:d_ bx bA N u) (aP:cS bH.aM.length bS β):W 2 (cu 14 [0,1,2,3,4,5,6,7,8,9,10,12]) ac w:=by
   exact en aH 11 (S.e0 aH al aP [] (.cons (fT (s:=Instr.build 31 [(0,R h.mem.length bX.1),(2,R h.buf.length dL.1),(3,R h.ag.length je.1)].toArray) (v:= .agg [R h.mem.length bX.1,R ([]:List aO).length (GT.cY (α:=List aO)).1,R h.buf.length dL.1,R h.ag.length je.1].toArray) (fun w=>by kernel_rfl)) .nil) fun _ _ _ S ca=>An _ _ dL dU je jP bX bU _ _ _ S ev qj ao d252 d253 d254 al ca)
  have IX ac w dL dU je jP bX bU u N β (S:aj Tryz.prog Tryz.f38.ntmps w0 ab u N β (bH.dl [] [(8,.v (R h.mem.length bX.1)),(12,.v (R h.buf.length dL.1)),(16,.v (R h.ag.length je.1))] 2 []) ac w) (ev:ad w0 ab u N dU h.buf dL) (qj:ad w0 ab u N jP h.ag je) (ao:ad w0 ab u N bU h.mem bX) (d256:J dU jP) (d257:J dU bU) (d258:J jP bU) (al:d_ bx bA N u) (aP:cS bH.aM.length bS β):W 3 (cu 14 [0,1,2,3,4,5,6,7,8,9,10]) ac w:=by
   exact gx aH 11 12 (S.e0 aH al aP [] (.cons (fT (s:=Instr.build 31 [(0,R h.mem.length bX.1),(2,R h.buf.length dL.1),(3,R h.ag.length je.1)].toArray) (v:= .agg [R h.mem.length bX.1,R ([]:List aO).length (GT.cY (α:=List aO)).1,R h.buf.length dL.1,R h.ag.length je.1].toArray) (fun w=>by kernel_rfl)) .nil) fun _ _ _ S ca=>IW _ _ dL dU je jP bX bU _ _ _ S ev qj ao d256 d257 d258 al ca) (S.e0 aH al aP [] .nil fun _ _ _ S ca=>Ao _ _ dL dU je jP bX bU _ _ _ S ev qj ao d256 d257 d258 al ca)
  have u4 ac w dL dU c2 ch bX bU u N β (S:aj Tryz.prog Tryz.f38.ntmps w0 ab u N β (bH.dl [] [(3,.p 2 0),(8,.v (R h.mem.length bX.1)),(12,.v (R h.buf.length dL.1)),(13,.v (R 0 c2.1)),(15,.v (R h.ag.length ai.ag.1))] 3 [(2,ck ah)]) ac w) (ev:ad w0 ab u N dU h.buf dL) (ba:ad w0 ab u N ch ([]:List aG) c2) (ao:ad w0 ab u N bU h.mem bX) (d260:J dU ch) (d261:J dU bU) (d262:J ch bU) (al:∀b,bx b->N b/\u.heap[b]? =bA.heap[b]? /\¬ch b) (aP:cS bH.aM.length bS β):W 3 (cu 14 [0,1,2,3,4,5,6,7,8,9,12]) ac w:=by
   refine en aH 10 ?_
   have Xm:h.ag.length<=4194304:=af.le (bz.ag (d:=h) (S.arg a1))
   refine id (S.lH (α:=aG) ba (bz.ag (d:=h) (S.arg a1)) (fun _ _ h=>h) (by':=32) (d:=16) (lx:=0) (ly:=h.ag.length) rfl fun ac w N Mm Ge S up Ll d266=>?_)
   have AA:=fun b h=>(⟨(up b (al b h).1 (al b h).2.2).1,(up b (al b h).1 (al b h).2.2).2.trans (al b h).2.1⟩:_/\_)
   refine ar.dh S AA aP fun bk=>?_
   have d269:=d266 _ (J.symm d262) ao.sub
   have d270:=d266 _ d260 ev.sub
   replace ao:=ao.bw (J.symm d262) up
   replace ev:=ev.bw d260 up
   clear up d266
   exact S.cZ aH [] bk fun _ S=>Ao _ _ dL dU Mm Ge bX bU _ _ _ S ev Ll ao d270 d261 (J.symm d269) AA aP
  have Ap ac w dL dU c2 ch bX bU u N β (S:aj Tryz.prog Tryz.f38.ntmps w0 ab u N β (bH.dl [] [(8,.v (R h.mem.length bX.1)),(12,.v (R h.buf.length dL.1)),(13,.v (R 0 c2.1)),(15,.v (R h.ag.length ai.ag.1))] 2 []) ac w) (ev:ad w0 ab u N dU h.buf dL) (ba:ad w0 ab u N ch ([]:List aG) c2) (ao:ad w0 ab u N bU h.mem bX) (d272:J dU ch) (d273:J dU bU) (d274:J ch bU) (al:∀b,bx b->N b/\u.heap[b]? =bA.heap[b]? /\¬ch b) (aP:cS bH.aM.length bS β):W 4 (cu 14 [0,1,2,3,4,5,6,7,8,9]) ac w:=by
   refine gx aH 10 12 ?_ (S.e0 aH (fun b h=>⟨(al b h).1,(al b h).2.1⟩) aP [] .nil fun _ _ _ S ca=>u4 _ _ dL dU c2 ch bX bU _ _ _ S ev ba ao d272 d273 d274 al ca)
   have Xo:h.ag.length<=4194304:=af.le (bz.ag (d:=h) (S.arg a1))
   refine id (S.lH (α:=aG) ba (bz.ag (d:=h) (S.arg a1)) (fun _ _ h=>h) (by':=32) (d:=16) (lx:=0) (ly:=h.ag.length) rfl fun ac w N Mn zf S up Bx d278=>?_)
   have AB:=fun b h=>(⟨(up b (al b h).1 (al b h).2.2).1,(up b (al b h).1 (al b h).2.2).2.trans (al b h).2.1⟩:_/\_)
   refine ar.dh S AB aP fun bk=>?_
   have d281:=d278 _ (J.symm d274) ao.sub
   have d282:=d278 _ d272 ev.sub
   replace ao:=ao.bw (J.symm d274) up
   replace ev:=ev.bw d272 up
   clear up d278
   exact S.cZ aH [] bk fun _ S=>IX _ _ dL dU Mn zf bX bU _ _ _ S ev Bx ao d282 d273 (J.symm d281) AB aP
  have Aq ac w dL dU bX bU u N β (S:aj Tryz.prog Tryz.f38.ntmps w0 ab u N β (bH.dl [] [(3,.p 2 0),(8,.v (R h.mem.length bX.1)),(12,.v (R h.buf.length dL.1)),(15,.v (R h.ag.length ai.ag.1))] 3 [(2,ck ah)]) ac w) (ev:ad w0 ab u N dU h.buf dL) (ao:ad w0 ab u N bU h.mem bX) (d284:J dU bU) (al:d_ bx bA N u) (aP:cS bH.aM.length bS β):W 4 (cu 14 [0,1,2,3,4,5,6,8,9,12]) ac w:=by
   refine en aH 7 ?_
   refine id (S.fA (α:=aG) (d:=13) (by kernel_rfl) fun ac w N Mo Gf S up Lm d288=>?_)
   have vb:=fun b h=>(⟨(up b (al b h).1).1,(up b (al b h).1).2.trans (al b h).2,d288 b (al b h).1⟩:_/\_/\_)
   refine ar.dh S (fun b h=>⟨(vb b h).1,(vb b h).2.1⟩) aP fun bk=>?_
   have d290:=J.w d288 ao.sub
   have d291:=J.w d288 ev.sub
   replace ao:=ao.up up
   replace ev:=ev.up up
   clear up d288
   exact S.cZ aH [] bk fun _ S=>u4 _ _ dL dU Mo Gf bX bU _ _ _ S ev Lm ao d291 d284 (J.symm d290) vb aP
  have rY ac w c2 ch bX bU cG cC u N β (S:aj Tryz.prog Tryz.f38.ntmps w0 ab u N β (bH.dl [] [(3,.p 2 0),(8,.v (R h.mem.length bX.1)),(9,.v (R 0 cG.1)),(11,.v (R h.buf.length ai.buf.1)),(13,.v (R 0 c2.1)),(15,.v (R h.ag.length ai.ag.1))] 3 [(2,ck ah)]) ac w) (ba:ad w0 ab u N ch ([]:List aG) c2) (ao:ad w0 ab u N bU h.mem bX) (bh:ad w0 ab u N cC ([]:List aG) cG) (d293:J ch bU) (d294:J ch cC) (d295:J bU cC) (al:∀b,bx b->N b/\u.heap[b]? =bA.heap[b]? /\¬cC b/\¬ch b) (aP:cS bH.aM.length bS β):W 4 (cu 14 [0,1,2,3,4,5,7,8,9,12]) ac w:=by
   refine en aH 6 ?_
   have Xr:h.buf.length<=4194304:=af.le (bz.buf (d:=h) (S.arg a1))
   refine id (S.lH (α:=aG) bh (bz.buf (d:=h) (S.arg a1)) (fun _ _ h=>h) (by':=32) (d:=12) (lx:=0) (ly:=h.buf.length) rfl fun ac w N Mp Gg S up Ln d299=>?_)
   have vc:=fun b h=>(⟨(up b (al b h).1 (al b h).2.2.1).1,(up b (al b h).1 (al b h).2.2.1).2.trans (al b h).2.1,(al b h).2.2.2⟩:_/\_/\_)
   refine ar.dh S (fun b h=>⟨(vc b h).1,(vc b h).2.1⟩) aP fun bk=>?_
   have d302:=d299 _ d295 ao.sub
   have d303:=d299 _ d294 ba.sub
   replace ao:=ao.bw d295 up
   replace ba:=ba.bw d294 up
   clear up d299
   exact S.cZ aH [] bk fun _ S=>u4 _ _ Mp Gg c2 ch bX bU _ _ _ S Ln ba ao (J.symm d303) (J.symm d302) d293 vc aP
  have IZ ac w dL dU bX bU u N β (S:aj Tryz.prog Tryz.f38.ntmps w0 ab u N β (bH.dl [] [(8,.v (R h.mem.length bX.1)),(12,.v (R h.buf.length dL.1)),(15,.v (R h.ag.length ai.ag.1))] 2 []) ac w) (ev:ad w0 ab u N dU h.buf dL) (ao:ad w0 ab u N bU h.mem bX) (d305:J dU bU) (al:d_ bx bA N u) (aP:cS bH.aM.length bS β):W 5 (cu 14 [0,1,2,3,4,5,6,8,9]) ac w:=by
   refine gx aH 7 12 ?_ (S.e0 aH al aP [] .nil fun _ _ _ S ca=>Aq _ _ dL dU bX bU _ _ _ S ev ao d305 al ca)
   refine id (S.fA (α:=aG) (d:=13) (by kernel_rfl) fun ac w N Mq Gh S up Lo d309=>?_)
   have vd:=fun b h=>(⟨(up b (al b h).1).1,(up b (al b h).1).2.trans (al b h).2,d309 b (al b h).1⟩:_/\_/\_)
   refine ar.dh S (fun b h=>⟨(vd b h).1,(vd b h).2.1⟩) aP fun bk=>?_
   have d311:=J.w d309 ao.sub
   have d312:=J.w d309 ev.sub
   replace ao:=ao.up up
   replace ev:=ev.up up
   clear up d309
   exact S.cZ aH [] bk fun _ S=>Ap _ _ dL dU Mq Gh bX bU _ _ _ S ev Lo ao d312 d305 (J.symm d311) vd aP
  have u5 ac w c2 ch bX bU cG cC u N β (S:aj Tryz.prog Tryz.f38.ntmps w0 ab u N β (bH.dl [] [(8,.v (R h.mem.length bX.1)),(9,.v (R 0 cG.1)),(11,.v (R h.buf.length ai.buf.1)),(13,.v (R 0 c2.1)),(15,.v (R h.ag.length ai.ag.1))] 2 []) ac w) (ba:ad w0 ab u N ch ([]:List aG) c2) (ao:ad w0 ab u N bU h.mem bX) (bh:ad w0 ab u N cC ([]:List aG) cG) (d314:J ch bU) (d315:J ch cC) (d316:J bU cC) (al:∀b,bx b->N b/\u.heap[b]? =bA.heap[b]? /\¬cC b/\¬ch b) (aP:cS bH.aM.length bS β):W 5 (cu 14 [0,1,2,3,4,5,7,8,9]) ac w:=by
   refine gx aH 6 12 ?_ (S.e0 aH (fun b h=>⟨(al b h).1,(al b h).2.1⟩) aP [] .nil fun _ _ _ S ca=>rY _ _ c2 ch bX bU cG cC _ _ _ S ba ao bh d314 d315 d316 al ca)
   have Xs:h.buf.length<=4194304:=af.le (bz.buf (d:=h) (S.arg a1))
   refine id (S.lH (α:=aG) bh (bz.buf (d:=h) (S.arg a1)) (fun _ _ h=>h) (by':=32) (d:=12) (lx:=0) (ly:=h.buf.length) rfl fun ac w N Mr Gi S up Lp d320=>?_)
   have ve:=fun b h=>(⟨(up b (al b h).1 (al b h).2.2.1).1,(up b (al b h).1 (al b h).2.2.1).2.trans (al b h).2.1,(al b h).2.2.2⟩:_/\_/\_)
   refine ar.dh S (fun b h=>⟨(ve b h).1,(ve b h).2.1⟩) aP fun bk=>?_
   have d323:=d320 _ d316 ao.sub
   have d324:=d320 _ d315 ba.sub
   replace ao:=ao.bw d316 up
   replace ba:=ba.bw d315 up
   clear up d320
   exact S.cZ aH [] bk fun _ S=>Ap _ _ Mr Gi c2 ch bX bU _ _ _ S Lp ba ao (J.symm d324) (J.symm d323) d314 ve aP
  have u6 ac w bX bU cG cC u N β (S:aj Tryz.prog Tryz.f38.ntmps w0 ab u N β (bH.dl [] [(3,.p 2 0),(8,.v (R h.mem.length bX.1)),(9,.v (R 0 cG.1)),(11,.v (R h.buf.length ai.buf.1)),(15,.v (R h.ag.length ai.ag.1))] 3 [(2,ck ah)]) ac w) (ao:ad w0 ab u N bU h.mem bX) (bh:ad w0 ab u N cC ([]:List aG) cG) (d326:J bU cC) (al:∀b,bx b->N b/\u.heap[b]? =bA.heap[b]? /\¬cC b) (aP:cS bH.aM.length bS β):W 5 (cu 14 [0,1,2,3,4,5,8,9,12]) ac w:=by
   refine gx aH 6 7 ?_ ?_
   ·have Xt:h.buf.length<=4194304:=af.le (bz.buf (d:=h) (S.arg a1))
    refine id (S.lH (α:=aG) bh (bz.buf (d:=h) (S.arg a1)) (fun _ _ h=>h) (by':=32) (d:=12) (lx:=0) (ly:=h.buf.length) rfl fun ac w N Ms Gj S up Lq d330=>?_)
    have AD:=fun b h=>(⟨(up b (al b h).1 (al b h).2.2).1,(up b (al b h).1 (al b h).2.2).2.trans (al b h).2.1⟩:_/\_)
    refine ar.dh S AD aP fun bk=>?_
    have d333:=d330 _ d326 ao.sub
    replace ao:=ao.bw d326 up
    clear up d330
    exact S.cZ aH [] bk fun _ S=>Aq _ _ Ms Gj bX bU _ _ _ S Lq ao (J.symm d333) AD aP
   ·refine id (S.fA (α:=aG) (d:=13) (by kernel_rfl) fun ac w N Mt Gk S up Lr d337=>?_)
    have vf:=fun b h=>(⟨(up b (al b h).1).1,(up b (al b h).1).2.trans (al b h).2.1,(al b h).2.2,d337 b (al b h).1⟩:_/\_/\_/\_)
    refine ar.dh S (fun b h=>⟨(vf b h).1,(vf b h).2.1⟩) aP fun bk=>?_
    have d339:=J.w d337 ao.sub
    have d340:=J.w d337 bh.sub
    replace ao:=ao.up up
    replace bh:=bh.up up
    clear up d337
    exact S.cZ aH [] bk fun _ S=>rY _ _ Mt Gk bX bU cG cC _ _ _ S Lr ao bh (J.symm d339) (J.symm d340) d326 vf aP
  have u7 ac w c2 ch bX bU u N β (S:aj Tryz.prog Tryz.f38.ntmps w0 ab u N β (bH.dl [] [(3,.p 2 0),(8,.v (R h.mem.length bX.1)),(11,.v (R h.buf.length ai.buf.1)),(13,.v (R 0 c2.1)),(15,.v (R h.ag.length ai.ag.1))] 3 [(2,ck ah)]) ac w) (ba:ad w0 ab u N ch ([]:List aG) c2) (ao:ad w0 ab u N bU h.mem bX) (d342:J ch bU) (al:∀b,bx b->N b/\u.heap[b]? =bA.heap[b]? /\¬ch b) (aP:cS bH.aM.length bS β):W 5 (cu 14 [0,1,2,4,5,7,8,9,12]) ac w:=by
   refine en aH 3 ?_
   refine id (S.fA (α:=aG) (d:=9) (by kernel_rfl) fun ac w N Mu Gl S up Ls d346=>?_)
   have vg:=fun b h=>(⟨(up b (al b h).1).1,(up b (al b h).1).2.trans (al b h).2.1,d346 b (al b h).1,(al b h).2.2⟩:_/\_/\_/\_)
   refine ar.dh S (fun b h=>⟨(vg b h).1,(vg b h).2.1⟩) aP fun bk=>?_
   have d348:=J.w d346 ao.sub
   have d349:=J.w d346 ba.sub
   replace ao:=ao.up up
   replace ba:=ba.up up
   clear up d346
   exact S.cZ aH [] bk fun _ S=>rY _ _ c2 ch bX bU Mu Gl _ _ _ S ba ao Ls d342 d349 d348 vg aP
  have u9 ac w c2 ch cG cC u N β (S:aj Tryz.prog Tryz.f38.ntmps w0 ab u N β (bH.dl [] [(3,.p 2 0),(7,.v (R h.mem.length ai.mem.1)),(9,.v (R 0 cG.1)),(11,.v (R h.buf.length ai.buf.1)),(13,.v (R 0 c2.1)),(15,.v (R h.ag.length ai.ag.1))] 3 [(2,ck ah)]) ac w) (ba:ad w0 ab u N ch ([]:List aG) c2) (bh:ad w0 ab u N cC ([]:List aG) cG) (d351:J ch cC) (al:∀b,bx b->N b/\u.heap[b]? =bA.heap[b]? /\¬cC b/\¬ch b) (aP:cS bH.aM.length bS β):W 5 (cu 14 [0,1,3,4,5,7,8,9,12]) ac w:=by
   refine en aH 2 ?_
   refine id (S.dz 8 (o4 w h.mem ai.mem (S.rd (bz.mem (d:=h) (S.arg a1)))) fun ac w N Mv Gm S up Lt d355=>?_)
   have vh:=fun b h=>(⟨(up b (al b h).1).1,(up b (al b h).1).2.trans (al b h).2.1,(al b h).2.2.1,(al b h).2.2.2⟩:_/\_/\_/\_)
   refine ar.dh S (fun b h=>⟨(vh b h).1,(vh b h).2.1⟩) aP fun bk=>?_
   have d357:=J.w d355 bh.sub
   have d358:=J.w d355 ba.sub
   replace bh:=bh.up up
   replace ba:=ba.up up
   clear up d355
   exact S.cZ aH [] bk fun _ S=>rY _ _ c2 ch Mv Gm cG cC _ _ _ S ba Lt bh d358 d351 (J.symm d357) vh aP
  have Ar ac w bX bU cG cC u N β (S:aj Tryz.prog Tryz.f38.ntmps w0 ab u N β (bH.dl [] [(8,.v (R h.mem.length bX.1)),(9,.v (R 0 cG.1)),(11,.v (R h.buf.length ai.buf.1)),(15,.v (R h.ag.length ai.ag.1))] 2 []) ac w) (ao:ad w0 ab u N bU h.mem bX) (bh:ad w0 ab u N cC ([]:List aG) cG) (d360:J bU cC) (al:∀b,bx b->N b/\u.heap[b]? =bA.heap[b]? /\¬cC b) (aP:cS bH.aM.length bS β):W 6 (cu 14 [0,1,2,3,4,5,8,9]) ac w:=by
   refine ra aH 6 7 12 ?_ ?_ (S.e0 aH (fun b h=>⟨(al b h).1,(al b h).2.1⟩) aP [] .nil fun _ _ _ S ca=>u6 _ _ bX bU cG cC _ _ _ S ao bh d360 al ca)
   ·have Xv:h.buf.length<=4194304:=af.le (bz.buf (d:=h) (S.arg a1))
    refine id (S.lH (α:=aG) bh (bz.buf (d:=h) (S.arg a1)) (fun _ _ h=>h) (by':=32) (d:=12) (lx:=0) (ly:=h.buf.length) rfl fun ac w N Mw Gn S up Lu d364=>?_)
    have AE:=fun b h=>(⟨(up b (al b h).1 (al b h).2.2).1,(up b (al b h).1 (al b h).2.2).2.trans (al b h).2.1⟩:_/\_)
    refine ar.dh S AE aP fun bk=>?_
    have Hp:=d364 _ d360 ao.sub
    replace ao:=ao.bw d360 up
    clear up d364
    exact S.cZ aH [] bk fun _ S=>IZ _ _ Mw Gn bX bU _ _ _ S Lu ao (J.symm Hp) AE aP
   ·refine id (S.fA (α:=aG) (d:=13) (by kernel_rfl) fun ac w N Mx Gp S up Lv rJ=>?_)
    have vi:=fun b h=>(⟨(up b (al b h).1).1,(up b (al b h).1).2.trans (al b h).2.1,(al b h).2.2,rJ b (al b h).1⟩:_/\_/\_/\_)
    refine ar.dh S (fun b h=>⟨(vi b h).1,(vi b h).2.1⟩) aP fun bk=>?_
    have Hq:=J.w rJ ao.sub
    have Hr:=J.w rJ bh.sub
    replace ao:=ao.up up
    replace bh:=bh.up up
    clear up rJ
    exact S.cZ aH [] bk fun _ S=>u5 _ _ Mx Gp bX bU cG cC _ _ _ S Lv ao bh (J.symm Hq) (J.symm Hr) d360 vi aP
  have As ac w c2 ch bX bU u N β (S:aj Tryz.prog Tryz.f38.ntmps w0 ab u N β (bH.dl [] [(8,.v (R h.mem.length bX.1)),(11,.v (R h.buf.length ai.buf.1)),(13,.v (R 0 c2.1)),(15,.v (R h.ag.length ai.ag.1))] 2 []) ac w) (ba:ad w0 ab u N ch ([]:List aG) c2) (ao:ad w0 ab u N bU h.mem bX) (rK:J ch bU) (al:∀b,bx b->N b/\u.heap[b]? =bA.heap[b]? /\¬ch b) (aP:cS bH.aM.length bS β):W 6 (cu 14 [0,1,2,4,5,7,8,9]) ac w:=by
   refine gx aH 3 12 ?_ (S.e0 aH (fun b h=>⟨(al b h).1,(al b h).2.1⟩) aP [] .nil fun _ _ _ S ca=>u7 _ _ c2 ch bX bU _ _ _ S ba ao rK al ca)
   refine id (S.fA (α:=aG) (d:=9) (by kernel_rfl) fun ac w N My Gq S up Lw rL=>?_)
   have vj:=fun b h=>(⟨(up b (al b h).1).1,(up b (al b h).1).2.trans (al b h).2.1,rL b (al b h).1,(al b h).2.2⟩:_/\_/\_/\_)
   refine ar.dh S (fun b h=>⟨(vj b h).1,(vj b h).2.1⟩) aP fun bk=>?_
   have rM:=J.w rL ao.sub
   have Hs:=J.w rL ba.sub
   replace ao:=ao.up up
   replace ba:=ba.up up
   clear up rL
   exact S.cZ aH [] bk fun _ S=>u5 _ _ c2 ch bX bU My Gq _ _ _ S ba ao Lw rK Hs rM vj aP
  have At ac w bX bU u N β (S:aj Tryz.prog Tryz.f38.ntmps w0 ab u N β (bH.dl [] [(3,.p 2 0),(8,.v (R h.mem.length bX.1)),(11,.v (R h.buf.length ai.buf.1)),(15,.v (R h.ag.length ai.ag.1))] 3 [(2,ck ah)]) ac w) (ao:ad w0 ab u N bU h.mem bX) (al:d_ bx bA N u) (aP:cS bH.aM.length bS β):W 6 (cu 14 [0,1,2,4,5,8,9,12]) ac w:=by
   refine gx aH 3 7 ?_ ?_
   ·refine id (S.fA (α:=aG) (d:=9) (by kernel_rfl) fun ac w N Mz Gr S up Lx qG=>?_)
    have vk:=fun b h=>(⟨(up b (al b h).1).1,(up b (al b h).1).2.trans (al b h).2,qG b (al b h).1⟩:_/\_/\_)
    refine ar.dh S (fun b h=>⟨(vk b h).1,(vk b h).2.1⟩) aP fun bk=>?_
    have zQ:=J.w qG ao.sub
    replace ao:=ao.up up
    clear up qG
    exact S.cZ aH [] bk fun _ S=>u6 _ _ bX bU Mz Gr _ _ _ S ao Lx zQ vk aP
   ·refine id (S.fA (α:=aG) (d:=13) (by kernel_rfl) fun ac w N MA CN S up tC uD=>?_)
    have vl:=fun b h=>(⟨(up b (al b h).1).1,(up b (al b h).1).2.trans (al b h).2,uD b (al b h).1⟩:_/\_/\_)
    refine ar.dh S (fun b h=>⟨(vl b h).1,(vl b h).2.1⟩) aP fun bk=>?_
    have Ht:=J.w uD ao.sub
    replace ao:=ao.up up
    clear up uD
    exact S.cZ aH [] bk fun _ S=>u7 _ _ MA CN bX bU _ _ _ S tC ao (J.symm Ht) vl aP
  have Au ac w c2 ch cG cC u N β (S:aj Tryz.prog Tryz.f38.ntmps w0 ab u N β (bH.dl [] [(7,.v (R h.mem.length ai.mem.1)),(9,.v (R 0 cG.1)),(11,.v (R h.buf.length ai.buf.1)),(13,.v (R 0 c2.1)),(15,.v (R h.ag.length ai.ag.1))] 2 []) ac w) (ba:ad w0 ab u N ch ([]:List aG) c2) (bh:ad w0 ab u N cC ([]:List aG) cG) (zR:J ch cC) (al:∀b,bx b->N b/\u.heap[b]? =bA.heap[b]? /\¬cC b/\¬ch b) (aP:cS bH.aM.length bS β):W 6 (cu 14 [0,1,3,4,5,7,8,9]) ac w:=by
   refine gx aH 2 12 ?_ (S.e0 aH (fun b h=>⟨(al b h).1,(al b h).2.1⟩) aP [] .nil fun _ _ _ S ca=>u9 _ _ c2 ch cG cC _ _ _ S ba bh zR al ca)
   refine id (S.dz 8 (o4 w h.mem ai.mem (S.rd (bz.mem (d:=h) (S.arg a1)))) fun ac w N MB Gs S up Ly uE=>?_)
   have vm:=fun b h=>(⟨(up b (al b h).1).1,(up b (al b h).1).2.trans (al b h).2.1,(al b h).2.2.1,(al b h).2.2.2⟩:_/\_/\_/\_)
   refine ar.dh S (fun b h=>⟨(vm b h).1,(vm b h).2.1⟩) aP fun bk=>?_
   have Hu:=J.w uE bh.sub
   have Hv:=J.w uE ba.sub
   replace bh:=bh.up up
   replace ba:=ba.up up
   clear up uE
   exact S.cZ aH [] bk fun _ S=>u5 _ _ c2 ch MB Gs cG cC _ _ _ S ba Ly bh Hv zR (J.symm Hu) vm aP
  have Aw ac w cG cC u N β (S:aj Tryz.prog Tryz.f38.ntmps w0 ab u N β (bH.dl [] [(3,.p 2 0),(7,.v (R h.mem.length ai.mem.1)),(9,.v (R 0 cG.1)),(11,.v (R h.buf.length ai.buf.1)),(15,.v (R h.ag.length ai.ag.1))] 3 [(2,ck ah)]) ac w) (bh:ad w0 ab u N cC ([]:List aG) cG) (al:∀b,bx b->N b/\u.heap[b]? =bA.heap[b]? /\¬cC b) (aP:cS bH.aM.length bS β):W 6 (cu 14 [0,1,3,4,5,8,9,12]) ac w:=by
   refine gx aH 2 7 ?_ ?_
   ·refine id (S.dz 8 (o4 w h.mem ai.mem (S.rd (bz.mem (d:=h) (S.arg a1)))) fun ac w N MC Gt S up Lz uF=>?_)
    have vn:=fun b h=>(⟨(up b (al b h).1).1,(up b (al b h).1).2.trans (al b h).2.1,(al b h).2.2⟩:_/\_/\_)
    refine ar.dh S (fun b h=>⟨(vn b h).1,(vn b h).2.1⟩) aP fun bk=>?_
    have Hw:=J.w uF bh.sub
    replace bh:=bh.up up
    clear up uF
    exact S.cZ aH [] bk fun _ S=>u6 _ _ MC Gt cG cC _ _ _ S Lz bh (J.symm Hw) vn aP
   ·refine id (S.fA (α:=aG) (d:=13) (by kernel_rfl) fun ac w N MD Gu S up LA uG=>?_)
    have vo:=fun b h=>(⟨(up b (al b h).1).1,(up b (al b h).1).2.trans (al b h).2.1,(al b h).2.2,uG b (al b h).1⟩:_/\_/\_/\_)
    refine ar.dh S (fun b h=>⟨(vo b h).1,(vo b h).2.1⟩) aP fun bk=>?_
    have Hx:=J.w uG bh.sub
    replace bh:=bh.up up
    clear up uG
    exact S.cZ aH [] bk fun _ S=>u9 _ _ MD Gu cG cC _ _ _ S LA bh (J.symm Hx) vo aP
  have Ax ac w c2 ch u N β (S:aj Tryz.prog Tryz.f38.ntmps w0 ab u N β (bH.dl [] [(3,.p 2 0),(7,.v (R h.mem.length ai.mem.1)),(11,.v (R h.buf.length ai.buf.1)),(13,.v (R 0 c2.1)),(15,.v (R h.ag.length ai.ag.1))] 3 [(2,ck ah)]) ac w) (ba:ad w0 ab u N ch ([]:List aG) c2) (al:∀b,bx b->N b/\u.heap[b]? =bA.heap[b]? /\¬ch b) (aP:cS bH.aM.length bS β):W 6 (cu 14 [0,1,4,5,7,8,9,12]) ac w:=by
   refine gx aH 2 3 ?_ ?_
   ·refine id (S.dz 8 (o4 w h.mem ai.mem (S.rd (bz.mem (d:=h) (S.arg a1)))) fun ac w N ME Gv S up LB zT=>?_)
    have vp:=fun b h=>(⟨(up b (al b h).1).1,(up b (al b h).1).2.trans (al b h).2.1,(al b h).2.2⟩:_/\_/\_)
    refine ar.dh S (fun b h=>⟨(vp b h).1,(vp b h).2.1⟩) aP fun bk=>?_
    have Hy:=J.w zT ba.sub
    replace ba:=ba.up up
    clear up zT
    exact S.cZ aH [] bk fun _ S=>u7 _ _ c2 ch ME Gv _ _ _ S ba LB Hy vp aP
   ·refine id (S.fA (α:=aG) (d:=9) (by kernel_rfl) fun ac w N MF Gw S up LC rN=>?_)
    have vq:=fun b h=>(⟨(up b (al b h).1).1,(up b (al b h).1).2.trans (al b h).2.1,rN b (al b h).1,(al b h).2.2⟩:_/\_/\_/\_)
    refine ar.dh S (fun b h=>⟨(vq b h).1,(vq b h).2.1⟩) aP fun bk=>?_
    have Hz:=J.w rN ba.sub
    replace ba:=ba.up up
    clear up rN
    exact S.cZ aH [] bk fun _ S=>u9 _ _ c2 ch MF Gw _ _ _ S ba LC Hz vq aP
  have I1 ac w bX bU u N β (S:aj Tryz.prog Tryz.f38.ntmps w0 ab u N β (bH.dl [] [(8,.v (R h.mem.length bX.1)),(11,.v (R h.buf.length ai.buf.1)),(15,.v (R h.ag.length ai.ag.1))] 2 []) ac w) (ao:ad w0 ab u N bU h.mem bX) (al:d_ bx bA N u) (aP:cS bH.aM.length bS β):W 7 (cu 14 [0,1,2,4,5,8,9]) ac w:=by
   refine ra aH 3 7 12 ?_ ?_ (S.e0 aH al aP [] .nil fun _ _ _ S ca=>At _ _ bX bU _ _ _ S ao al ca)
   ·refine id (S.fA (α:=aG) (d:=9) (by kernel_rfl) fun ac w N MG Gy S up LD uH=>?_)
    have vr:=fun b h=>(⟨(up b (al b h).1).1,(up b (al b h).1).2.trans (al b h).2,uH b (al b h).1⟩:_/\_/\_)
    refine ar.dh S (fun b h=>⟨(vr b h).1,(vr b h).2.1⟩) aP fun bk=>?_
    have HA:=J.w uH ao.sub
    replace ao:=ao.up up
    clear up uH
    exact S.cZ aH [] bk fun _ S=>Ar _ _ bX bU MG Gy _ _ _ S ao LD HA vr aP
   ·refine id (S.fA (α:=aG) (d:=13) (by kernel_rfl) fun ac w N MH Gz S up LF uI=>?_)
    have vs:=fun b h=>(⟨(up b (al b h).1).1,(up b (al b h).1).2.trans (al b h).2,uI b (al b h).1⟩:_/\_/\_)
    refine ar.dh S (fun b h=>⟨(vs b h).1,(vs b h).2.1⟩) aP fun bk=>?_
    have HB:=J.w uI ao.sub
    replace ao:=ao.up up
    clear up uI
    exact S.cZ aH [] bk fun _ S=>As _ _ MH Gz bX bU _ _ _ S LF ao (J.symm HB) vs aP
  have I2 ac w cG cC u N β (S:aj Tryz.prog Tryz.f38.ntmps w0 ab u N β (bH.dl [] [(7,.v (R h.mem.length ai.mem.1)),(9,.v (R 0 cG.1)),(11,.v (R h.buf.length ai.buf.1)),(15,.v (R h.ag.length ai.ag.1))] 2 []) ac w) (bh:ad w0 ab u N cC ([]:List aG) cG) (al:∀b,bx b->N b/\u.heap[b]? =bA.heap[b]? /\¬cC b) (aP:cS bH.aM.length bS β):W 7 (cu 14 [0,1,3,4,5,8,9]) ac w:=by
   refine ra aH 2 7 12 ?_ ?_ (S.e0 aH (fun b h=>⟨(al b h).1,(al b h).2.1⟩) aP [] .nil fun _ _ _ S ca=>Aw _ _ cG cC _ _ _ S bh al ca)
   ·refine id (S.dz 8 (o4 w h.mem ai.mem (S.rd (bz.mem (d:=h) (S.arg a1)))) fun ac w N MI GA S up LG uJ=>?_)
    have vt:=fun b h=>(⟨(up b (al b h).1).1,(up b (al b h).1).2.trans (al b h).2.1,(al b h).2.2⟩:_/\_/\_)
    refine ar.dh S (fun b h=>⟨(vt b h).1,(vt b h).2.1⟩) aP fun bk=>?_
    have HC:=J.w uJ bh.sub
    replace bh:=bh.up up
    clear up uJ
    exact S.cZ aH [] bk fun _ S=>Ar _ _ MI GA cG cC _ _ _ S LG bh (J.symm HC) vt aP
   ·refine id (S.fA (α:=aG) (d:=13) (by kernel_rfl) fun ac w N MJ GB S up Bz uK=>?_)
    have vu:=fun b h=>(⟨(up b (al b h).1).1,(up b (al b h).1).2.trans (al b h).2.1,(al b h).2.2,uK b (al b h).1⟩:_/\_/\_/\_)
    refine ar.dh S (fun b h=>⟨(vu b h).1,(vu b h).2.1⟩) aP fun bk=>?_
    have HD:=J.w uK bh.sub
    replace bh:=bh.up up
    clear up uK
    exact S.cZ aH [] bk fun _ S=>Au _ _ MJ GB cG cC _ _ _ S Bz bh (J.symm HD) vu aP
  have I3 ac w c2 ch u N β (S:aj Tryz.prog Tryz.f38.ntmps w0 ab u N β (bH.dl [] [(7,.v (R h.mem.length ai.mem.1)),(11,.v (R h.buf.length ai.buf.1)),(13,.v (R 0 c2.1)),(15,.v (R h.ag.length ai.ag.1))] 2 []) ac w) (ba:ad w0 ab u N ch ([]:List aG) c2) (al:∀b,bx b->N b/\u.heap[b]? =bA.heap[b]? /\¬ch b) (aP:cS bH.aM.length bS β):W 7 (cu 14 [0,1,4,5,7,8,9]) ac w:=by
   refine ra aH 2 3 12 ?_ ?_ (S.e0 aH (fun b h=>⟨(al b h).1,(al b h).2.1⟩) aP [] .nil fun _ _ _ S ca=>Ax _ _ c2 ch _ _ _ S ba al ca)
   ·refine id (S.dz 8 (o4 w h.mem ai.mem (S.rd (bz.mem (d:=h) (S.arg a1)))) fun ac w N MK GC S up LH zU=>?_)
    have vv:=fun b h=>(⟨(up b (al b h).1).1,(up b (al b h).1).2.trans (al b h).2.1,(al b h).2.2⟩:_/\_/\_)
    refine ar.dh S (fun b h=>⟨(vv b h).1,(vv b h).2.1⟩) aP fun bk=>?_
    have HE:=J.w zU ba.sub
    replace ba:=ba.up up
    clear up zU
    exact S.cZ aH [] bk fun _ S=>As _ _ c2 ch MK GC _ _ _ S ba LH HE vv aP
   ·refine id (S.fA (α:=aG) (d:=9) (by kernel_rfl) fun ac w N ML GD S up LI rO=>?_)
    have vw:=fun b h=>(⟨(up b (al b h).1).1,(up b (al b h).1).2.trans (al b h).2.1,rO b (al b h).1,(al b h).2.2⟩:_/\_/\_/\_)
    refine ar.dh S (fun b h=>⟨(vw b h).1,(vw b h).2.1⟩) aP fun bk=>?_
    have HF:=J.w rO ba.sub
    replace ba:=ba.up up
    clear up rO
    exact S.cZ aH [] bk fun _ S=>Au _ _ c2 ch ML GD _ _ _ S ba LI HF vw aP
  have I4 ac w u N β (S:aj Tryz.prog Tryz.f38.ntmps w0 ab u N β (bH.dl [] [(3,.p 2 0),(7,.v (R h.mem.length ai.mem.1)),(11,.v (R h.buf.length ai.buf.1)),(15,.v (R h.ag.length ai.ag.1))] 3 [(2,ck ah)]) ac w) (al:d_ bx bA N u) (aP:cS bH.aM.length bS β):W 7 (cu 14 [0,1,4,5,8,9,12]) ac w:=by
   refine ra aH 2 3 7 ?_ ?_ ?_
   ·refine id (S.dz 8 (o4 w h.mem ai.mem (S.rd (bz.mem (d:=h) (S.arg a1)))) fun ac w N MM GF S up LJ HG=>?_)
    have AG:=fun b h=>(⟨(up b (al b h).1).1,(up b (al b h).1).2.trans (al b h).2⟩:_/\_)
    refine ar.dh S AG aP fun bk=>?_
    clear up HG
    exact S.cZ aH [] bk fun _ S=>At _ _ MM GF _ _ _ S LJ AG aP
   ·refine id (S.fA (α:=aG) (d:=9) (by kernel_rfl) fun ac w N MN GG S up LK zV=>?_)
    have vx:=fun b h=>(⟨(up b (al b h).1).1,(up b (al b h).1).2.trans (al b h).2,zV b (al b h).1⟩:_/\_/\_)
    refine ar.dh S (fun b h=>⟨(vx b h).1,(vx b h).2.1⟩) aP fun bk=>?_
    clear up zV
    exact S.cZ aH [] bk fun _ S=>Aw _ _ MN GG _ _ _ S LK vx aP
   ·refine id (S.fA (α:=aG) (d:=13) (by kernel_rfl) fun ac w N MO GH S up LL zW=>?_)
    have vy:=fun b h=>(⟨(up b (al b h).1).1,(up b (al b h).1).2.trans (al b h).2,zW b (al b h).1⟩:_/\_/\_)
    refine ar.dh S (fun b h=>⟨(vy b h).1,(vy b h).2.1⟩) aP fun bk=>?_
    clear up zW
    exact S.cZ aH [] bk fun _ S=>Ax _ _ MO GH _ _ _ S LL vy aP
  have al:d_ bx bA bx bA:=fun b h=>⟨h,rfl⟩
  have aP:cS bH.aM.length bS bS:=fun _ _=>rfl
  refine UN aH 2 3 7 12 ?_ ?_ ?_ (S.e0 aH al aP [] .nil fun _ _ _ S ca=>I4 _ _ _ _ _ S al ca)
  ·refine id (S.dz 8 (o4 w h.mem ai.mem (S.rd (bz.mem (d:=h) (S.arg a1)))) fun ac w N MP GI S up LM HH=>?_)
   have AH:=fun b h=>(⟨(up b (al b h).1).1,(up b (al b h).1).2.trans (al b h).2⟩:_/\_)
   refine ar.dh S AH aP fun bk=>?_
   clear up HH
   exact S.cZ aH [] bk fun _ S=>I1 _ _ MP GI _ _ _ S LM AH aP
  ·refine id (S.fA (α:=aG) (d:=9) (by kernel_rfl) fun ac w N MQ GJ S up LN zX=>?_)
   have vz:=fun b h=>(⟨(up b (al b h).1).1,(up b (al b h).1).2.trans (al b h).2,zX b (al b h).1⟩:_/\_/\_)
   refine ar.dh S (fun b h=>⟨(vz b h).1,(vz b h).2.1⟩) aP fun bk=>?_
   clear up zX
   exact S.cZ aH [] bk fun _ S=>I2 _ _ MQ GJ _ _ _ S LN vz aP
  ·refine id (S.fA (α:=aG) (d:=13) (by kernel_rfl) fun ac w N nX GK S up LO zY=>?_)
   have vA:=fun b h=>(⟨(up b (al b h).1).1,(up b (al b h).1).2.trans (al b h).2,zY b (al b h).1⟩:_/\_/\_)
   refine ar.dh S (fun b h=>⟨(vA b h).1,(vA b h).2.1⟩) aP fun bk=>?_
   clear up zY
   exact S.cZ aH [] bk fun _ S=>I3 _ _ nX GK _ _ _ S LO vA aP
 clear S
 rintro ac w ⟨hJ,jk,jf,jw,iU,iW,u,N,β,S,fR,gF,gX,HI,rP,zZ⟩
 refine S.ex fun S=>?_
 refine S.go 11 .nil fun ac w β S=>?_
 have BC:=S.mw (α:=aO)
 refine dc (fun a5 ac w=>∃(i:Nat) (acc:List aO) (oM:_) (pM:_) (u:_) (N:_) (β:_),a5=h.I.length-i/\(i<=h.I.length)/\(acc=h.I.take i)/\aj Tryz.prog Tryz.f38.ntmps w0 ab u N β ⟨[(2,.p 1 0),(3,.p 2 0),(19,.v (R h.I.length ai.I.1)),(20,.v (aa (h.I.length:Int))),(21,.v (aa (i:Int)))],[GT.cells h ai,ck ah,[R h.mem.length iU.1,R acc.length oM.1,R h.buf.length hJ.1,R h.ag.length jf.1]]⟩ ac w/\ad w0 ab u N pM acc oM/\ad w0 ab u N iW h.mem iU/\ad w0 ab u N jk h.buf hJ/\ad w0 ab u N jw h.ag jf/\J pM iW/\J pM jk/\J pM jw) _ ⟨0,([]:List aO),(GT.cY (α:=List aO)),ab,_,_,_,rfl,cv,(by rfl),S.z,BC,gX,fR,gF,(J.symm (fun b _ h=>False.elim h)),(J.symm (fun b _ h=>False.elim h)),(J.symm (fun b _ h=>False.elim h))⟩ ?_
 clear S gX fR gF BC
 rintro H9 a5 Jl ac w ⟨i,acc,oM,pM,u,N,β,rfl,hi,bt,S,lZ,gX,fR,gF,uL,uM,uN⟩
 refine S.rs fun S=>?_
 have gD:acc.length=i:=by rw [bt];simp;omega
 refine S.aI 6 .nil (decide ((i:Int)<(h.I.length:Int))) (fun ac w β IL Ir S=>?_) (fun ac w β IL Ir S=>?_)
 ·refine S.go 13 (.cons (b6 (bz.I (d:=h) (S.arg a1)) i Tryz.underlying28) (.cons (dy (bz.I (d:=h) (S.arg a1)) 74 i) .nil)) fun ac w β S=>?_
  refine dI ?_
  refine S.dP (f:=8) 5 (by kernel_rfl) (by kernel_rfl) fun w S=>?_
  refine S.a9 0 [1,0] [] [(25,.p 2 1)] .nil fun ac S=>?_
  refine S.a9 1 [1] [] [(26,.v (R acc.length oM.1))] .nil fun ac S=>?_
  refine S.a9 2 [3,2] [] [(27,.v (GT.val (el h.I i) (ai.I.2 i)))] .nil fun ac S=>?_
  refine ar.one (i:=3) (by kernel_rfl) ?_
  refine id (S.dz 28 (Pp w (el h.I i) (ai.I.2 i) (S.rd (af.el (bz.I (d:=h) (S.arg a1)) i (by omega)))) fun ac w N MR WB S up we pW=>?_)
  refine ar.next S up (by kernel_rfl) ?_
  have HJ:=J.w pW lZ.sub
  have HK:=J.w pW gX.sub
  have HL:=J.w pW fR.sub
  have HM:=J.w pW gF.sub
  replace lZ:=lZ.up up
  replace gX:=gX.up up
  replace fR:=fR.up up
  replace gF:=gF.up up
  clear up pW
  refine ar.one (i:=4) (by kernel_rfl) ?_
  refine id (S.pS (α:=aO) (x:=(el h.I i)) (p:=MR) we.own we.sub we.dJ (d:=29) (by kernel_rfl) fun ac w N aiR WC S up LQ pX=>?_)
  refine ar.next S up (by kernel_rfl) ?_
  have HN:=pX _ HJ lZ.sub
  have HO:=pX _ HK gX.sub
  have HP:=pX _ HL fR.sub
  have HQ:=pX _ HM gF.sub
  replace lZ:=lZ.up up
  replace gX:=gX.up up
  replace fR:=fR.up up
  replace gF:=gF.up up
  clear up pX
  refine ar.one (i:=5) (by kernel_rfl) ?_
  refine id (S.CU (α:=aO) lZ LQ HN (by':=168) (d:=30) (lx:=acc.length) (ly:=1) rfl rfl (by kernel_rfl) (show _<=4194304 by simp only [List.length_append,List.length_cons,List.length_nil];omega) fun ac w N BX GM S up LR rQ=>?_)
  refine ar.last (by kernel_rfl) ?_
  have sW:=rQ _ (J.symm uL) HO gX.sub
  have HR:=rQ _ (J.symm uM) HP fR.sub
  have HS:=rQ _ (J.symm uN) HQ gF.sub
  replace gX:=gX.bw (J.symm uL) up
  replace fR:=fR.bw (J.symm uM) up
  replace gF:=gF.bw (J.symm uN) up
  clear up rQ
  refine S.c9 6 [] [(31,.p 2 1)] 4 [] .nil fun ac w β S=>?_
  refine S.c9 7 [] [] 4 [(2,[R h.mem.length iU.1,R (acc++[(el h.I i)]).length BX.1,R h.buf.length hJ.1,R h.ag.length jf.1])] .nil fun ac w β S=>?_
  refine ar.done (by kernel_rfl) ?_ _
  refine S.ex fun S=>?_
  refine S.ge 6 (.cons (cg (i:Int) 1) .nil) H9 fun ac w β S=>Jl.of (h.I.length-(i+1)) _ _ (by omega) ⟨i+1,(acc++[(el h.I i)]),BX,GM,_,_,_,rfl,?_,?_,S.z,LR,gX,fR,gF,(J.symm sW),(J.symm HR),(J.symm HS)⟩
  ·exact cO
  ·clear S;(first|(rw [jh (by omega),bt];done)|(rw [jh (by omega),bt];simp;done))
 refine S.bq 13 .nil [GT.val (⟨h.mem,acc,h.buf,h.ag⟩:ah) (⟨iU,oM,hJ,jf⟩:cb)] fun ac w β S=>?_
 have LS:=fi (x:=(⟨h.mem,acc,h.buf,h.ag⟩:ah)) (p:=(⟨iU,oM,hJ,jf⟩:cb)) gX lZ fR gF (J.symm uL) (J.symm rP) (J.symm zZ) uM uN HI
 exact cx S (show h=(⟨h.mem,acc,h.buf,h.ag⟩:ah) by clear S;(rw [bt,fb (by omega)];first|done|rfl|(simp;done))) rfl LS
theorem jo (w0:World) (k:Int) (length:Int) (ft:-9223372036854775808<length):Calls Tryz.prog 41 [aa k,aa length].toArray w0 (fun e w'=>e= .returned (B (a3 k 0 (length-1)))/\bu ab w0 w'):=by
 refine Calls.run ab Tryz.func41 ?_
 intro ac β S
 refine S.aI 10 .nil (decide (k>=0)) (fun ac w β h1 a8 S=>?_) (fun ac w β h1 a8 S=>?_)
 ·exact S.aq 8 .nil [B (decide (k<length))] (a6 (by clear S;(rw [Bool.eq_iff_iff];simp [a3];omega)))
 exact S.aq 8 .nil [B false] (a6 (by clear S;(rw [Bool.eq_iff_iff];simp [a3];omega)))
theorem Et {p:Prop} (h:p:=by clear S;(first|(unfold aK;rw [if_pos (by omega)])|(unfold aK;rw [if_neg (by omega)]))):p:=h
theorem G6 (w0:World) (h:ah) (ai:cb) (a1:bT w0 h ai) (m:Int):Calls Tryz.prog 39 [GT.val h ai,aa m].toArray w0 (rC ab w0 ((aK h m).1:aO) ((aK h m).2:Bool)):=by
 refine Calls.run ab Tryz.func39 ?_
 intro ac β S
 have m1:h.mem.length<=4194304:=af.le (bz.mem (d:=h) a1)
 have m2:h.I.length<=4194304:=af.le (bz.I (d:=h) a1)
 have mZ:h.buf.length<=4194304:=af.le (bz.buf (d:=h) a1)
 have m0:h.ag.length<=4194304:=af.le (bz.ag (d:=h) a1)
 refine S.bb 18 (.cons (aE fun w hw=>jo w m (h.I.length:Int) (by omega)) .nil) (!(a3 m 0 ((h.I.length:Int)-1))) (fun ac w β h1 S=>?_) (fun ac w β h1 S=>?_)
 ·have an:=cn h1
  have b4:=dm an
  refine S.bq 9 (.cons (fT (s:=Instr.build 74 [].toArray) (v:= .agg [R ([]:List aQ).length (GT.cY (α:=List aQ)).1,R ([]:List (List Int)).length (GT.cY (α:=List (List Int))).1,R ([]:List Bool).length (GT.cY (α:=List Bool)).1,R ([]:List ax).length (GT.cY (α:=List ax)).1,R ([]:List Int).length (GT.cY (α:=List Int)).1,aa 0,aa 0,R ([]:List bQ).length (GT.cY (α:=List bQ)).1,aa 0].toArray) (fun w=>by kernel_rfl)) .nil) [GT.val (⟨([]:List aQ),([]:List (List Int)),([]:List Bool),([]:List ax),([]:List Int),0,0,([]:List bQ),0⟩:aO) (⟨(GT.cY (α:=List aQ)),(GT.cY (α:=List (List Int))),(GT.cY (α:=List Bool)),(GT.cY (α:=List ax)),(GT.cY (α:=List Int)),(GT.cY (α:=List bQ))⟩:fj),B false] fun ac w β S=>?_
  have fW:=S.mw (α:=aQ)
  have bY:=S.mw (α:=List Int)
  have bJ:=S.mw (α:=Bool)
  have ao:=S.mw (α:=ax)
  have bP:=S.mw (α:=Int)
  have bE:=S.mw (α:=bQ)
  have m9:=Ff (x:=(⟨([]:List aQ),([]:List (List Int)),([]:List Bool),([]:List ax),([]:List Int),0,0,([]:List bQ),0⟩:aO)) (p:=(⟨(GT.cY (α:=List aQ)),(GT.cY (α:=List (List Int))),(GT.cY (α:=List Bool)),(GT.cY (α:=List ax)),(GT.cY (α:=List Int)),(GT.cY (α:=List bQ))⟩:fj)) fW bY bJ ao bP bE (fun b _ h=>False.elim h) (fun b _ h=>False.elim h) (fun b _ h=>False.elim h) (fun b _ h=>False.elim h) (fun b _ h=>False.elim h) (fun b _ h=>False.elim h) (fun b _ h=>False.elim h) (fun b _ h=>False.elim h) (fun b _ h=>False.elim h) (fun b _ h=>False.elim h) (fun b _ h=>False.elim h) (fun b _ h=>False.elim h) (fun b _ h=>False.elim h) (fun b _ h=>False.elim h) (fun b _ h=>False.elim h) (show a_ 0 from⟨by decide,by decide⟩) (show a_ 0 from⟨by decide,by decide⟩) (show a_ 0 from⟨by decide,by decide⟩)
  exact f_ (p':=()) S (show(aK h m).1=(⟨([]:List aQ),([]:List (List Int)),([]:List Bool),([]:List ax),([]:List Int),0,0,([]:List bQ),0⟩:aO) from Et) (show(aK h m).2=false from Et) rfl rfl m9 trivial
 have eL:=b_ h1
 have h8:=cU eL
 refine S.go 10 (.cons (cp (bz.I (d:=h) (S.arg a1)) m Tryz.underlying28) (.cons (dy (bz.I (d:=h) (S.arg a1)) 74 m.toNat) .nil)) fun ac w β S=>S.cN (r:=(el h.I m.toNat)) (d:=18) (Pp w (el h.I m.toNat) (ai.I.2 m.toNat) (S.rd (af.el (bz.I (d:=h) (S.arg a1)) m.toNat (by omega)))) fun ac w N yM fL S up bh d16=>?_
 clear up d16
 refine S.bq 5 .nil [GT.val (el h.I m.toNat) yM,B true] fun ac w β S=>?_
 exact f_ (p':=()) S (show(aK h m).1=(el h.I m.toNat) from Et) (show(aK h m).2=true from Et) rfl rfl bh trivial
theorem Tm {p:Prop} (h:p:=by clear S;first|rfl|(simp [a3, *];done)|(simp [a3, *];omega)|(simp_all [a3];done)|(simp_all [a3];omega)):p:=h
theorem ha (w0:World) (n:Int) (a:Int) (b:Int):Calls Tryz.prog 129 [aa n,aa a,aa b].toArray w0 (fun e w'=>e= .returned (B (a3 n a b))/\bu ab w0 w'):=by
 refine Calls.run ab Tryz.func129 ?_
 intro ac β S
 refine S.aI 11 .nil (decide (n>=a)) (fun ac w β h1 a8 S=>?_) (fun ac w β h1 a8 S=>?_)
 ·exact S.aq 8 .nil [B (decide (n<=b))] (a6 Tm)
 exact S.aq 8 .nil [B false] (a6 Tm)
theorem G9 (w0:World) (cells:List Int) (l5:aC Int) (ml:bT w0 cells l5):Calls Tryz.prog 242 [R cells.length l5.1].toArray w0 (fun e w'=>e= .returned (B (hh cells))/\bu ab w0 w'):=by
 refine Calls.run ab Tryz.func242 ?_
 intro ac β S
 have Jx:cells.length<=4194304:=af.le ml
 refine S.go 14 .nil fun ac w β S=>?_
 refine dc (fun a5 ac w=>∃(k:Nat) (u:_) (N:_) (β:_),a5=cells.length-k/\(k<=cells.length)/\((cells.take k).all (fun v=>a3 v 0 99)=true)/\aj Tryz.prog Tryz.f242.ntmps w0 ab u N β ⟨[(0,.v (R cells.length l5.1)),(5,.v (R cells.length l5.1)),(6,.v (aa (cells.length:Int))),(7,.v (aa (k:Int)))],[]⟩ ac w) _ ⟨0,_,_,_,rfl,cv,(by simp),S.z⟩ ?_
 clear S
 rintro f1 a5 fa ac w ⟨k,u,N,β,rfl,hk,he,S⟩
 refine S.rs fun S=>?_
 refine S.aI 6 .nil (decide ((k:Int)<(cells.length:Int))) (fun ac w β aF cB S=>?_) (fun ac w β aF cB S=>?_)
 ·refine S.bb 19 (.cons (b6 (S.arg ml) k Tryz.underlying38) (.cons (cj (S.arg ml) 3 k) (.cons (aE fun w hw=>ha w (el cells k) 0 99) .nil))) (!(a3 (el cells k) 0 99)) (fun ac w β bl S=>?_) (fun ac w β bl S=>?_)
  ·have cR:=cn bl
   have gC:=dm cR
   exact S.aq 7 .nil [B false] (a6 (by clear S;(first|(unfold hh;rw [l9 (k:=k) (by omega) (by first|assumption|simp_all)];simp;done)|(unfold hh;rw [eR (by omega) he];simp;done)|(unfold hh;rw [eR (by omega) he];simp [*];done)|(unfold hh;rw [eR (by omega) he];simp;omega))))
  have db:=b_ bl
  have fx:=cU db
  refine S.ge 8 (.cons (cg (k:Int) 1) .nil) f1 fun ac w β S=>fa.of (cells.length-(k+1)) _ _ (by omega) ⟨k+1,_,_,_,rfl,?_,?_,S.z⟩
  ·exact cO
  ·clear S;exact pP (by omega) he (by first|assumption|(simp only [g5,a3] at*;simp_all;done)|(simp_all;done)|(simp_all;omega))
 exact S.aq 15 .nil [B ((cells.length:Int)==4)] (a6 (by clear S;(first|(unfold hh;rw [eR (by omega) he];simp;done)|(unfold hh;rw [eR (by omega) he];simp [*];done)|(unfold hh;rw [eR (by omega) he];simp;omega)|(unfold hh;rw [l9 (k:=k) (by omega) (by first|assumption|simp_all)];simp;done))))
theorem Pd (w0:World) (m:List (List Int)) (pm:aC (List Int)) (hm:bT w0 m pm) (eh:Int):Calls Tryz.prog 128 [R m.length pm.1,aa eh].toArray w0 (fun e w'=>e= .returned (B (h6 m eh))/\bu ab w0 w'):=by
 refine Calls.run ab Tryz.func128 ?_
 intro ac β S
 have qW:m.length<=4194304:=af.le hm
 refine S.go 14 .nil fun ac w β S=>?_
 refine dc (fun a5 ac w=>∃(k:Nat) (u:_) (N:_) (β:_),a5=m.length-k/\(k<=m.length)/\((m.take k).all hh=true)/\aj Tryz.prog Tryz.f128.ntmps w0 ab u N β ⟨[(0,.v (R m.length pm.1)),(1,.v (aa eh)),(7,.v (R m.length pm.1)),(8,.v (aa (m.length:Int))),(9,.v (aa (k:Int)))],[]⟩ ac w) _ ⟨0,_,_,_,rfl,cv,(by simp),S.z⟩ ?_
 clear S
 rintro f1 a5 fa ac w ⟨k,u,N,β,rfl,hk,he,S⟩
 refine S.rs fun S=>?_
 refine S.aI 6 .nil (decide ((k:Int)<(m.length:Int))) (fun ac w β aF cB S=>?_) (fun ac w β aF cB S=>?_)
 ·refine S.bb 19 (.cons (b6 (S.arg hm) k Tryz.underlying22) (.cons (cj (S.arg hm) 38 k) (.cons (aE fun w hw=>G9 w (el m k) (pm.2 k) (bN (af.el (S.arg hm) k (by omega)) hw)) .nil))) (!(hh (el m k))) (fun ac w β bl S=>?_) (fun ac w β bl S=>?_)
  ·have cR:=cn bl
   exact S.aq 7 .nil [B false] (a6 (by clear S;(first|(unfold h6;rw [l9 (k:=k) (by omega) (by first|assumption|simp_all)];simp;done)|(unfold h6;rw [eR (by omega) he];simp;done)|(unfold h6;rw [eR (by omega) he];simp [*];done)|(unfold h6;rw [eR (by omega) he];simp;omega))))
  have cD:=b_ bl
  refine S.ge 8 (.cons (cg (k:Int) 1) .nil) f1 fun ac w β S=>fa.of (m.length-(k+1)) _ _ (by omega) ⟨k+1,_,_,_,rfl,?_,?_,S.z⟩
  ·exact cO
  ·clear S;exact pP (by omega) he (by first|assumption|(simp only [g5,a3] at*;simp_all;done)|(simp_all;done)|(simp_all;omega))
 exact S.aq 16 .nil [B ((m.length:Int)==eh)] (a6 (by clear S;(first|(unfold h6;rw [eR (by omega) he];simp;done)|(unfold h6;rw [eR (by omega) he];simp [*];done)|(unfold h6;rw [eR (by omega) he];simp;omega)|(unfold h6;rw [l9 (k:=k) (by omega) (by first|assumption|simp_all)];simp;done))))
theorem S8 {p:Prop} (h:p:=by clear S;(first|(unfold oc;rw [show b.length=i by omega,he];first|rfl|(simp [*];done)|(simp;omega)|(rw [Bool.eq_iff_iff];simp;omega))|(unfold oc;rw [FE (k:=i) (by omega) (FE (k:=k) (by omega) (by simp_all<;>fail))];rfl))):p:=h
theorem O1 (w0:World) (b:List aG) (bB:aC aG) (hb:bT w0 b bB):Calls Tryz.prog 130 [R b.length bB.1].toArray w0 (fun e w'=>e= .returned (B (oc b))/\bu ab w0 w'):=by
 refine Calls.run ab Tryz.func130 ?_
 intro ac β S
 have kD:b.length<=4194304:=af.le hb
 refine S.go 14 .nil fun ac w β S=>?_
 refine dc (fun a5 ac w=>∃(i:Nat) (u:_) (N:_) (β:_),a5=b.length-i/\(i<=b.length)/\((List.range i).all (fun i=>(List.range i).all fun k=>!(decide ((el b i).tag=(el b k).tag)&&decide ((el b i).page=(el b k).page)))=true)/\aj Tryz.prog Tryz.f130.ntmps w0 ab u N β ⟨[(0,.v (R b.length bB.1)),(7,.v (R b.length bB.1)),(8,.v (aa (b.length:Int))),(9,.v (aa (i:Int)))],[]⟩ ac w) _ ⟨0,_,_,_,rfl,cv,(by rfl),S.z⟩ ?_
 clear S
 rintro f1 a5 fa ac w ⟨i,u,N,β,rfl,hi,he,S⟩
 refine S.rs fun S=>?_
 refine S.aI 6 .nil (decide ((i:Int)<(b.length:Int))) (fun ac w β aF cB S=>?_) (fun ac w β aF cB S=>?_)
 ·have aph:(b.take i).length=i-0:=by first|(simp;done)|(simp;omega)
  refine S.go 25 (.cons (b6 (S.arg hb) i Tryz.underlying29) (.cons (dy (S.arg hb) 138 i) (.cons (GV (S.arg hb) (l:=b.length) (a:=0) (b:=i) rfl (.inl ⟨rfl,rfl⟩) (.inr rfl) (by omega) (by omega) Tryz.underlying29 (by kernel_rfl)) .nil))) fun ac w β S=>?_
  refine dc (fun a5 ac w=>∃(k:Nat) (u:_) (N:_) (β:_),a5=i-k/\(k<=i)/\((List.range k).all (fun k=>!(decide ((el b i).tag=(el b k).tag)&&decide ((el b i).page=(el b k).page)))=true)/\aj Tryz.prog Tryz.f130.ntmps w0 ab u N β ⟨[(0,.v (R b.length bB.1)),(4,.p 0 0),(7,.v (R b.length bB.1)),(8,.v (aa (b.length:Int))),(9,.v (aa (i:Int))),(16,.v (R i (bB.1.c9 0 4))),(17,.v (aa (i:Int))),(18,.v (aa (k:Int)))],[GT.cells (el b i) ()]⟩ ac w) _ ⟨0,_,_,_,rfl,cv,(by rfl),S.z⟩ ?_
  clear S
  rintro f6 a5 D3 ac w ⟨k,u,N,β,rfl,hk,kC,S⟩
  refine S.rs fun S=>?_
  have aaS:k<i->el (b.take i) k=el b k:=fun h=>QB h
  refine S.aI 6 .nil (decide ((k:Int)<(i:Int))) (fun ac w β db fx S=>?_) (fun ac w β db fx S=>?_)
  ·refine S.aI 21 (.cons (eI (show GT.rd b7 _ _ (b.take i) ((bB.1.c9 0 4,fun i=>bB.2 (0+i)):aC aG) from M4 (S.arg hb) (a:=0) (b:=i) (by omega) (by omega)) (l:=i) (k:=k) (i:=(k:Int)) (by omega) rfl (by omega) Tryz.underlying29 (by kernel_rfl)) (.cons (dy (show GT.rd b7 _ _ (b.take i) ((bB.1.c9 0 4,fun i=>bB.2 (0+i)):aC aG) from M4 (S.arg hb) (a:=0) (b:=i) (by omega) (by omega)) 138 k) .nil)) ((el b i).tag==(el (b.take i) k).tag) (fun ac w β c3 dY S=>?_) (fun ac w β c3 dY S=>?_)
   ·refine S.aI 8 .nil ((el b i).page==(el (b.take i) k).page) (fun ac w β dZ hA S=>?_) (fun ac w β dZ hA S=>?_)
    ·exact S.aq 7 .nil [B false] (a6 S8)
    refine S.ge 8 (.cons (cg (k:Int) 1) .nil) f6 fun ac w β S=>D3.of (i-(k+1)) _ _ (by omega) ⟨k+1,_,_,_,rfl,?_,?_,S.z⟩
    ·exact cO
    ·clear S;(refine ru kC ?_;simp_all)
   refine S.ge 16 (.cons (cg (k:Int) 1) .nil) f6 fun ac w β S=>D3.of (i-(k+1)) _ _ (by omega) ⟨k+1,_,_,_,rfl,?_,?_,S.z⟩
   ·exact cO
   ·clear S;(refine ru kC ?_;simp_all)
  refine S.ge 11 (.cons (cg (i:Int) 1) .nil) f1 fun ac w β S=>fa.of (b.length-(i+1)) _ _ (by omega) ⟨i+1,_,_,_,rfl,?_,?_,S.z⟩
  ·exact cO
  ·clear S;(refine ru he ?_);(have e:k=i:=(by omega));rw [e] at kC;exact kC
 exact S.aq 15 .nil [B (decide ((b.length:Int)<=6))] (a6 S8)
theorem ny (w0:World):Calls Tryz.prog 246 [].toArray w0 (fun e w'=>e= .returned (GT.val (⟨-1,0⟩:aQ) ())/\bu ab w0 w'):=by
 refine Calls.run ab Tryz.func246 ?_
 intro ac β S
 exact S.aq 12 (.cons (fT (s:=Instr.build 111 [(0,aa (-1))].toArray) (v:= .agg [aa (-1),aa 0].toArray) (fun w=>by kernel_rfl)) .nil) [GT.val (⟨(-1),0⟩:aQ) ()] (hU (p:=()) (by clear S;first|rfl|(simp [id, *];done)|(simp [id, *];omega)|(simp_all [id];done)|(simp_all [id];omega)))
theorem Ev {p:Prop} (h:p:=by clear S;first|rfl|(simp [g5, *];done)|(simp [g5, *];omega)|(simp_all [g5];done)|(simp_all [g5];omega)):p:=h
theorem Ys (w0:World) (s:aQ) (eh:Int) (ft:0<=eh) (gP:eh<=1000):Calls Tryz.prog 280 [GT.val s (),aa eh].toArray w0 (fun e w'=>e= .returned (B (g5 s eh))/\bu ab w0 w'):=by
 refine Calls.run ab Tryz.func280 ?_
 intro ac β S
 refine S.go 7 .nil fun ac w β S=>?_
 refine dI ?_
 rcases Bool.eq_false_or_eq_true (decide (s=(⟨-1,0⟩:aQ))) with h1|h1
 ·refine S.oa [(3,true)] (keep:=[4]) (m:=0) (σ':=⟨[(4,.v (B true))],[]⟩) (.cons (aE fun w hw=>ny w) (.cons (qv (t:=111) s (⟨-1,0⟩:aQ) (by kernel_rfl)) .nil)) rfl (by kernel_rfl) (by kernel_rfl) (.cons h1 .nil) fun ac w S=>?_
  refine S.ex fun S=>?_
  exact S.aq 2 .nil [B true] (a6 Ev)
 ·rcases Bool.eq_false_or_eq_true (decide (eh>0)) with an|an
  ·have b4:=of_decide_eq_true an
   rcases Bool.eq_false_or_eq_true (a3 s.page 0 (eh-1)) with b2|b2
   ·have dK:=cU b2
    refine S.oa [(3,false),(6,true),(13,true)] (keep:=[4]) (m:=0) (σ':=⟨[(4,.v (B (a3 s.bd 1 3)))],[]⟩) (.cons (aE fun w hw=>ny w) (.cons (qv (t:=111) s (⟨-1,0⟩:aQ) (by kernel_rfl)) (.cons (g8 eh 1) (.cons (aE fun w hw=>ha w s.page 0 (eh-1)) (.cons (aE fun w hw=>ha w s.bd 1 3) .nil))))) rfl (by kernel_rfl) (by kernel_rfl) (.cons h1 (.cons an (.cons b2 .nil))) fun ac w S=>?_
    refine S.ex fun S=>?_
    exact S.aq 2 .nil [B (a3 s.bd 1 3)] (a6 Ev)
   ·have c7:=dm b2
    refine S.oa [(3,false),(6,true),(13,false)] (keep:=[4]) (m:=0) (σ':=⟨[(4,.v (B false))],[]⟩) (.cons (aE fun w hw=>ny w) (.cons (qv (t:=111) s (⟨-1,0⟩:aQ) (by kernel_rfl)) (.cons (g8 eh 1) (.cons (aE fun w hw=>ha w s.page 0 (eh-1)) .nil)))) rfl (by kernel_rfl) (by kernel_rfl) (.cons h1 (.cons an (.cons b2 .nil))) fun ac w S=>?_
    refine S.ex fun S=>?_
    exact S.aq 2 .nil [B false] (a6 Ev)
  ·have gC:=of_decide_eq_false an
   refine S.oa [(3,false),(6,false)] (keep:=[4]) (m:=0) (σ':=⟨[(4,.v (B false))],[]⟩) (.cons (aE fun w hw=>ny w) (.cons (qv (t:=111) s (⟨-1,0⟩:aQ) (by kernel_rfl)) .nil)) rfl (by kernel_rfl) (by kernel_rfl) (.cons h1 (.cons an .nil)) fun ac w S=>?_
   refine S.ex fun S=>?_
   exact S.aq 2 .nil [B false] (a6 Ev)
theorem Ha (w0:World) (t:List aQ) (bg:aC aQ) (bs:bT w0 t bg) (size:Int) (eh:Int) (ft:0<=eh) (gP:eh<=1000):Calls Tryz.prog 243 [R t.length bg.1,aa size,aa eh].toArray w0 (fun e w'=>e= .returned (B (gV t size eh))/\bu ab w0 w'):=by
 refine Calls.run ab Tryz.func243 ?_
 intro ac β S
 have AU:t.length<=4194304:=af.le bs
 refine S.go 14 .nil fun ac w β S=>?_
 refine dc (fun a5 ac w=>∃(k:Nat) (u:_) (N:_) (β:_),a5=t.length-k/\(k<=t.length)/\((t.take k).all (fun s=>g5 s eh)=true)/\aj Tryz.prog Tryz.f243.ntmps w0 ab u N β ⟨[(0,.v (R t.length bg.1)),(1,.v (aa size)),(2,.v (aa eh)),(9,.v (R t.length bg.1)),(10,.v (aa (t.length:Int))),(11,.v (aa (k:Int)))],[]⟩ ac w) _ ⟨0,_,_,_,rfl,cv,(by simp),S.z⟩ ?_
 clear S
 rintro f1 a5 fa ac w ⟨k,u,N,β,rfl,hk,he,S⟩
 refine S.rs fun S=>?_
 refine S.aI 6 .nil (decide ((k:Int)<(t.length:Int))) (fun ac w β aF cB S=>?_) (fun ac w β aF cB S=>?_)
 ·refine S.bb 21 (.cons (b6 (S.arg bs) k Tryz.underlying64) (.cons (dy (S.arg bs) 111 k) (.cons (aE fun w hw=>Ys w (el t k) eh (by omega) (by omega)) .nil))) (!(g5 (el t k) eh)) (fun ac w β bl S=>?_) (fun ac w β bl S=>?_)
  ·have cR:=cn bl
   exact S.aq 7 .nil [B false] (a6 (by clear S;(first|(unfold gV;rw [l9 (k:=k) (by omega) (by first|assumption|simp_all)];simp;done)|(unfold gV;rw [eR (by omega) he];simp;done)|(unfold gV;rw [eR (by omega) he];simp [*];done)|(unfold gV;rw [eR (by omega) he];simp;omega))))
  have cD:=b_ bl
  refine S.ge 8 (.cons (cg (k:Int) 1) .nil) f1 fun ac w β S=>fa.of (t.length-(k+1)) _ _ (by omega) ⟨k+1,_,_,_,rfl,?_,?_,S.z⟩
  ·exact cO
  ·clear S;exact pP (by omega) he (by first|assumption|(simp only [g5,a3] at*;simp_all;done)|(simp_all;done)|(simp_all;omega))
 exact S.aq 16 .nil [B ((t.length:Int)==size)] (a6 (by clear S;(first|(unfold gV;rw [eR (by omega) he];simp;done)|(unfold gV;rw [eR (by omega) he];simp [*];done)|(unfold gV;rw [eR (by omega) he];simp;omega)|(unfold gV;rw [l9 (k:=k) (by omega) (by first|assumption|simp_all)];simp;done))))
theorem C6 (w0:World) (p:Int):Calls Tryz.prog 244 [aa p].toArray w0 (fun e w'=>e= .returned (B (a3 p 0 255))/\bu ab w0 w'):=by
 refine Calls.run ab Tryz.func244 ?_
 intro ac β S
 exact S.aq 13 (.cons (aE fun w hw=>ha w p 0 255) .nil) [B (a3 p 0 255)] (a6 (by clear S;first|rfl|(simp [a3, *];done)|(simp [a3, *];omega)|(simp_all [a3];done)|(simp_all [a3];omega)))
theorem sd {p:Prop} (h:p:=by clear S;first|rfl|(simp [mT, *];done)|(simp [mT, *];omega)|(simp_all [mT];done)|(simp_all [mT];omega)):p:=h
theorem Yi (w0:World) (i:c_):Calls Tryz.prog 339 [GT.val i ()].toArray w0 (fun e w'=>e= .returned (B (mT i))/\bu ab w0 w'):=by
 refine Calls.run ab Tryz.func339 ?_
 intro ac β S
 refine S.aI 21 .nil (i.eF==1) (fun ac w β h1 a8 S=>?_) (fun ac w β h1 a8 S=>?_)
 ·exact S.aq 13 (.cons (aE fun w hw=>ha w i.x 0 99) .nil) [B (a3 i.x 0 99)] (a6 sd)
 refine S.aI 7 .nil (i.eF==2) (fun ac w β aF cB S=>?_) (fun ac w β aF cB S=>?_)
 ·exact S.aq 13 (.cons (aE fun w hw=>ha w i.x 0 99) .nil) [B (a3 i.x 0 99)] (a6 sd)
 refine S.aI 7 .nil (i.eF==5) (fun ac w β bl c7 S=>?_) (fun ac w β bl c7 S=>?_)
 ·exact S.aq 13 (.cons (aE fun w hw=>ha w i.x 0 99) .nil) [B (a3 i.x 0 99)] (a6 sd)
 refine S.aI 6 .nil (i.eF==6) (fun ac w β cD e_ S=>?_) (fun ac w β cD e_ S=>?_)
 ·exact S.aq 10 (.cons (aE fun w hw=>ha w i.x 0 99) .nil) [B (a3 i.x 0 99)] (a6 sd)
 refine S.aI 8 .nil (i.eF==3) (fun ac w β et iP S=>?_) (fun ac w β et iP S=>?_)
 ·exact S.aq 13 (.cons (aE fun w hw=>ha w i.x 0 15) .nil) [B (a3 i.x 0 15)] (a6 sd)
 refine S.aI 6 .nil (i.eF==4) (fun ac w β eL h8 S=>?_) (fun ac w β eL h8 S=>?_)
 ·exact S.aq 10 (.cons (aE fun w hw=>ha w i.x 0 15) .nil) [B (a3 i.x 0 15)] (a6 sd)
 refine S.aI 7 .nil (i.eF==7) (fun ac w β jD nK S=>?_) (fun ac w β jD nK S=>?_)
 ·exact S.aq 10 .nil [B (i.x==0)] (a6 sd)
 refine S.aI 7 .nil (i.eF==8) (fun ac w β oj pb S=>?_) (fun ac w β oj pb S=>?_)
 ·exact S.aq 10 (.cons (aE fun w hw=>ha w i.x 0 11) .nil) [B (a3 i.x 0 11)] (a6 sd)
 exact S.aq 10 .nil [B false] (a6 sd)
theorem Yp (w0:World) (p:List c_) (pp:aC c_) (bD:bT w0 p pp):Calls Tryz.prog 310 [R p.length pp.1].toArray w0 (fun e w'=>e= .returned (B (j7 p))/\bu ab w0 w'):=by
 refine Calls.run ab Tryz.func310 ?_
 intro ac β S
 have JF:p.length<=4194304:=af.le bD
 refine S.go 14 .nil fun ac w β S=>?_
 refine dc (fun a5 ac w=>∃(k:Nat) (u:_) (N:_) (β:_),a5=p.length-k/\(k<=p.length)/\((p.take k).all mT=true)/\aj Tryz.prog Tryz.f310.ntmps w0 ab u N β ⟨[(0,.v (R p.length pp.1)),(5,.v (R p.length pp.1)),(6,.v (aa (p.length:Int))),(7,.v (aa (k:Int)))],[]⟩ ac w) _ ⟨0,_,_,_,rfl,cv,(by simp),S.z⟩ ?_
 clear S
 rintro f1 a5 fa ac w ⟨k,u,N,β,rfl,hk,he,S⟩
 refine S.rs fun S=>?_
 refine S.aI 6 .nil (decide ((k:Int)<(p.length:Int))) (fun ac w β aF cB S=>?_) (fun ac w β aF cB S=>?_)
 ·refine S.bb 20 (.cons (b6 (S.arg bD) k Tryz.underlying63) (.cons (dy (S.arg bD) 128 k) (.cons (aE fun w hw=>Yi w (el p k)) .nil))) (!(mT (el p k))) (fun ac w β bl S=>?_) (fun ac w β bl S=>?_)
  ·have cR:=cn bl
   exact S.aq 7 .nil [B false] (a6 (by clear S;(first|(unfold j7;rw [l9 (k:=k) (by omega) (by first|assumption|simp_all)];simp;done)|(unfold j7;rw [eR (by omega) he];simp;done)|(unfold j7;rw [eR (by omega) he];simp [*];done)|(unfold j7;rw [eR (by omega) he];simp;omega))))
  have cD:=b_ bl
  refine S.ge 8 (.cons (cg (k:Int) 1) .nil) f1 fun ac w β S=>fa.of (p.length-(k+1)) _ _ (by omega) ⟨k+1,_,_,_,rfl,?_,?_,S.z⟩
  ·exact cO
  ·clear S;exact pP (by omega) he (by first|assumption|(simp only [g5,a3] at*;simp_all;done)|(simp_all;done)|(simp_all;omega))
 exact S.aq 15 (.cons (aE fun w hw=>ha w (p.length:Int) 1 12) .nil) [B (a3 (p.length:Int) 1 12)] (a6 (by clear S;(first|(unfold j7;rw [eR (by omega) he];simp;done)|(unfold j7;rw [eR (by omega) he];simp [*];done)|(unfold j7;rw [eR (by omega) he];simp;omega)|(unfold j7;rw [l9 (k:=k) (by omega) (by first|assumption|simp_all)];simp;done))))
theorem X9 (w0:World) (c:fo):Calls Tryz.prog 327 [GT.val c ()].toArray w0 (dw ab w0 (mR c:List Int)):=by
 refine Calls.run ab Tryz.func327 ?_
 intro ac β S
 refine S.go 8 .nil fun ac w β S=>S.gR (α:=Int) (d:=4) fun ac w N ae br S up aD d4=>?_
 clear up d4
 refine S.go 12 (.cons (aE fun w hw=>ha w c.aX 0 3) .nil) fun ac w β S=>?_
 refine il S (fun ac w=>∃(lG:List Int) (bL:_) (cW:_) (u:_) (N:_) (β:_),(lG=(if a3 c.aX 0 3 then [] else [1]))/\aj Tryz.prog Tryz.f327.ntmps w0 ab u N β ⟨[(1,.p 0 0),(3,.v (R lG.length bL.1))],[GT.cells c ()]⟩ ac w/\ad w0 ab u N cW lG bL) ?_ ?_
 ·clear S;intro S
  refine S.bb 0 .nil (!(a3 c.aX 0 3)) (fun ac w β db S=>?_) (fun ac w β db S=>?_)
  ·have et:=cn db
   have iP:=dm et
   refine S.go 3 .nil fun ac w β S=>S.iL (α:=Int) (x:=1) (p:=()) (F:=ab) (show a_ 1 from⟨by decide,by decide⟩) (fun b h=>False.elim h) (fun b h=>False.elim h) (d:=10) fun ac w N yK CG S up ju d14=>?_
   replace aD:=aD.up up
   clear up d14
   refine S.lC (α:=Int) aD ju.ak (fun _ _ h=>h) (by':=8) (d:=11) (lx:=0) (ly:=1) rfl fun ac w N cG cC S up eU d19=>?_
   clear up d19
   exact S.dF 2 .nil fun ac w β S=>⟨rfl,([1]),cG,cC,_,_,_,(by clear S;(first|(rw [if_pos (by assumption)];simp [*];done)|(rw [if_neg (by simp [*])];simp [*];done)|((repeat' split)<;>first|rfl|(simp;done)|(exfalso;simp_all;done)|(simp_all;done)))),S.z,eU⟩
  have lj:=b_ db
  have uT:=cU lj
  exact S.dF 2 .nil fun ac w β S=>⟨rfl,([]:List Int),ae,br,_,_,_,(by clear S;(first|(rw [if_pos (by assumption)];simp [*];done)|(rw [if_neg (by simp [*])];simp [*];done)|((repeat' split)<;>first|rfl|(simp;done)|(exfalso;simp_all;done)|(simp_all;done)))),S.z,aD⟩
 clear S aD
 rintro ac w ⟨lG,bL,cW,u,N,β,va,S,ao⟩
 have aej:lG.length<=1:=by rw [va];(repeat' split)<;>simp
 refine S.ex fun S=>?_
 refine S.go 10 (.cons (aE fun w hw=>ha w c.post 0 255) .nil) fun ac w β S=>?_
 refine il S (fun ac w=>∃(kW:List Int) (e2:_) (mE:_) (u:_) (N:_) (β:_),(kW=(if a3 c.aX 0 3 then [] else [1])++(if a3 c.post 0 255 then [] else [2]))/\aj Tryz.prog Tryz.f327.ntmps w0 ab u N β ⟨[(1,.p 0 0),(3,.v (R kW.length e2.1))],[GT.cells c ()]⟩ ac w/\ad w0 ab u N mE kW e2) ?_ ?_
 ·clear S;intro S
  refine S.bb 0 .nil (!(a3 c.post 0 255)) (fun ac w β gN S=>?_) (fun ac w β gN S=>?_)
  ·have lP:=cn gN
   have z8:=dm lP
   refine S.go 3 .nil fun ac w β S=>S.iL (α:=Int) (x:=2) (p:=()) (F:=ab) (show a_ 2 from⟨by decide,by decide⟩) (fun b h=>False.elim h) (fun b h=>False.elim h) (d:=17) fun ac w N tM Ww S up lY d32=>?_
   replace ao:=ao.up up
   clear up d32
   refine S.k7 (α:=Int) ao lY.ak (fun _ _ h=>h) (by':=8) (d:=18) (lx:=lG.length) (ly:=1) rfl rfl (show _<=4194304 by simp only [List.length_append,List.length_cons,List.length_nil];omega) fun ac w N l7 n2 S up gY d37=>?_
   clear up d37
   exact S.dF 2 .nil fun ac w β S=>⟨rfl,(lG++[2]),l7,n2,_,_,_,(by clear S;(first|(rw [if_pos (by assumption)];simp [*];done)|(rw [if_neg (by simp [*])];simp [*];done)|(rw [va];(repeat' split)<;>first|rfl|(simp;done)|(exfalso;simp_all;done)|(simp_all;done)))),S.z,gY⟩
  have qR:=b_ gN
  have DJ:=cU qR
  exact S.dF 2 .nil fun ac w β S=>⟨rfl,lG,bL,cW,_,_,_,(by clear S;(first|(rw [if_pos (by assumption)];simp [*];done)|(rw [if_neg (by simp [*])];simp [*];done)|(rw [va];(repeat' split)<;>first|rfl|(simp;done)|(exfalso;simp_all;done)|(simp_all;done)))),S.z,ao⟩
 clear S ao
 rintro ac w ⟨kW,e2,mE,u,N,β,r0,S,dC⟩
 have AS:kW.length<=2:=by rw [r0];(repeat' split)<;>simp
 refine S.ex fun S=>?_
 refine S.aI 8 .nil (c.post != 0) (fun ac w β pg z_ S=>?_) (fun ac w β pg z_ S=>?_)
 ·refine S.go 6 .nil fun ac w β S=>?_
  refine il S (fun ac w=>∃(gT:List Int) (k4:_) (lE:_) (u:_) (N:_) (β:_),(gT=(if a3 c.aX 0 3 then [] else [1])++(if a3 c.post 0 255 then [] else [2])++(if c.post≠0/\c.eV=false then [3] else []))/\aj Tryz.prog Tryz.f327.ntmps w0 ab u N β ⟨[(1,.p 0 0),(3,.v (R gT.length k4.1))],[GT.cells c ()]⟩ ac w/\ad w0 ab u N lE gT k4) ?_ ?_
  ·clear S;intro S
   refine S.bb 0 .nil (!c.eV) (fun ac w β om S=>?_) (fun ac w β om S=>?_)
   ·have rX:=cn om
    refine S.go 3 .nil fun ac w β S=>S.iL (α:=Int) (x:=3) (p:=()) (F:=ab) (show a_ 3 from⟨by decide,by decide⟩) (fun b h=>False.elim h) (fun b h=>False.elim h) (d:=28) fun ac w N Vm N6 S up BB d51=>?_
    replace dC:=dC.up up
    clear up d51
    refine S.k7 (α:=Int) dC BB.ak (fun _ _ h=>h) (by':=8) (d:=29) (lx:=kW.length) (ly:=1) rfl rfl (show _<=4194304 by simp only [List.length_append,List.length_cons,List.length_nil];omega) fun ac w N BW zh S up yG d56=>?_
    clear up d56
    exact S.dF 2 .nil fun ac w β S=>⟨rfl,(kW++[3]),BW,zh,_,_,_,(by clear S;(first|(rw [if_pos (by assumption)];simp [*];done)|(rw [if_neg (by simp [*])];simp [*];done)|(rw [r0];(repeat' split)<;>first|rfl|(simp;done)|(exfalso;simp_all;done)|(simp_all;done)))),S.z,yG⟩
   have acZ:=b_ om
   exact S.dF 2 .nil fun ac w β S=>⟨rfl,kW,e2,mE,_,_,_,(by clear S;(first|(rw [if_pos (by assumption)];simp [*];done)|(rw [if_neg (by simp [*])];simp [*];done)|(rw [r0];(repeat' split)<;>first|rfl|(simp;done)|(exfalso;simp_all;done)|(simp_all;done)))),S.z,dC⟩
  clear S dC
  rintro ac w ⟨gT,k4,lE,u,N,β,mY,S,ey⟩
  have Jv:gT.length<=3:=by rw [mY];(repeat' split)<;>simp
  refine S.ex fun S=>?_
  refine S.aI 8 .nil (c.aX==2) (fun ac w β uY It S=>?_) (fun ac w β uY It S=>?_)
  ·refine S.go 6 .nil fun ac w β S=>?_
   refine il S (fun ac w=>∃(ef:List Int) (nq:_) (lF:_) (u:_) (N:_) (β:_),(ef=(if a3 c.aX 0 3 then [] else [1])++(if a3 c.post 0 255 then [] else [2])++(if c.post≠0/\c.eV=false then [3] else [])++(if c.aX=2/\c.post≠0 then [4] else []))/\aj Tryz.prog Tryz.f327.ntmps w0 ab u N β ⟨[(3,.v (R ef.length nq.1))],[]⟩ ac w/\ad w0 ab u N lF ef nq) ?_ ?_
   ·clear S;intro S
    refine S.lt 37 pg fun S=>?_
    refine S.go 3 .nil fun ac w β S=>S.iL (α:=Int) (x:=4) (p:=()) (F:=ab) (show a_ 4 from⟨by decide,by decide⟩) (fun b h=>False.elim h) (fun b h=>False.elim h) (d:=39) fun ac w N BZ sM S up g7 d67=>?_
    replace ey:=ey.up up
    clear up d67
    refine S.k7 (α:=Int) ey g7.ak (fun _ _ h=>h) (by':=8) (d:=40) (lx:=gT.length) (ly:=1) rfl rfl (show _<=4194304 by simp only [List.length_append,List.length_cons,List.length_nil];omega) fun ac w N nY oS S up pz d72=>?_
    clear up d72
    exact S.dF 2 .nil fun ac w β S=>⟨rfl,(gT++[4]),nY,oS,_,_,_,(by clear S;(first|(rw [if_pos (by assumption)];simp [*];done)|(rw [if_neg (by simp [*])];simp [*];done)|(rw [mY];(repeat' split)<;>first|rfl|(simp;done)|(exfalso;simp_all;done)|(simp_all;done)))),S.z,pz⟩
   clear S ey
   rintro ac w ⟨ef,nq,lF,u,N,β,jF,S,iS⟩
   have vH:ef.length<=4:=by rw [jF];(repeat' split)<;>simp
   refine S.ex fun S=>?_
   refine S.bq 8 .nil [R ef.length nq.1] fun ac w β S=>?_
   exact cx S (show mR c=ef by clear S;(rw [jF];rfl)) rfl iS
  refine S.go 6 .nil fun ac w β S=>?_
  refine il S (fun ac w=>∃(ef:List Int) (rj:_) (w1:_) (u:_) (N:_) (β:_),(ef=(if a3 c.aX 0 3 then [] else [1])++(if a3 c.post 0 255 then [] else [2])++(if c.post≠0/\c.eV=false then [3] else [])++(if c.aX=2/\c.post≠0 then [4] else []))/\aj Tryz.prog Tryz.f327.ntmps w0 ab u N β ⟨[(3,.v (R ef.length rj.1))],[]⟩ ac w/\ad w0 ab u N w1 ef rj) ?_ ?_
  ·clear S;intro S
   exact S.dF 2 .nil fun ac w β S=>⟨rfl,gT,k4,lE,_,_,_,(by clear S;(first|(rw [if_pos (by assumption)];simp [*];done)|(rw [if_neg (by simp [*])];simp [*];done)|(rw [mY];(repeat' split)<;>first|rfl|(simp;done)|(exfalso;simp_all;done)|(simp_all;done)))),S.z,ey⟩
  clear S ey
  rintro ac w ⟨ef,rj,w1,u,N,β,jF,S,wg⟩
  have vH:ef.length<=4:=by rw [jF];(repeat' split)<;>simp
  refine S.ex fun S=>?_
  refine S.bq 8 .nil [R ef.length rj.1] fun ac w β S=>?_
  exact cx S (show mR c=ef by clear S;(rw [jF];rfl)) rfl wg
 refine S.go 6 .nil fun ac w β S=>?_
 refine il S (fun ac w=>∃(gT:List Int) (qp:_) (rz:_) (u:_) (N:_) (β:_),(gT=(if a3 c.aX 0 3 then [] else [1])++(if a3 c.post 0 255 then [] else [2])++(if c.post≠0/\c.eV=false then [3] else []))/\aj Tryz.prog Tryz.f327.ntmps w0 ab u N β ⟨[(1,.p 0 0),(3,.v (R gT.length qp.1))],[GT.cells c ()]⟩ ac w/\ad w0 ab u N rz gT qp) ?_ ?_
 ·clear S;intro S
  exact S.dF 2 .nil fun ac w β S=>⟨rfl,kW,e2,mE,_,_,_,(by clear S;(first|(rw [if_pos (by assumption)];simp [*];done)|(rw [if_neg (by simp [*])];simp [*];done)|(rw [r0];(repeat' split)<;>first|rfl|(simp;done)|(exfalso;simp_all;done)|(simp_all;done)))),S.z,dC⟩
 clear S dC
 rintro ac w ⟨gT,qp,rz,u,N,β,mY,S,sq⟩
 have Jv:gT.length<=3:=by rw [mY];(repeat' split)<;>simp
 refine S.ex fun S=>?_
 refine S.aI 8 .nil (c.aX==2) (fun ac w β Ak Ab S=>?_) (fun ac w β Ak Ab S=>?_)
 ·refine S.go 6 .nil fun ac w β S=>?_
  refine il S (fun ac w=>∃(ef:List Int) (pD:_) (um:_) (u:_) (N:_) (β:_),(ef=(if a3 c.aX 0 3 then [] else [1])++(if a3 c.post 0 255 then [] else [2])++(if c.post≠0/\c.eV=false then [3] else [])++(if c.aX=2/\c.post≠0 then [4] else []))/\aj Tryz.prog Tryz.f327.ntmps w0 ab u N β ⟨[(3,.v (R ef.length pD.1))],[]⟩ ac w/\ad w0 ab u N um ef pD) ?_ ?_
  ·clear S;intro S
   refine S.lt 37 pg fun S=>?_
   exact S.dF 2 .nil fun ac w β S=>⟨rfl,gT,qp,rz,_,_,_,(by clear S;(first|(rw [if_pos (by assumption)];simp [*];done)|(rw [if_neg (by simp [*])];simp [*];done)|(rw [mY];(repeat' split)<;>first|rfl|(simp;done)|(exfalso;simp_all;done)|(simp_all;done)))),S.z,sq⟩
  clear S sq
  rintro ac w ⟨ef,pD,um,u,N,β,jF,S,ev⟩
  have vH:ef.length<=4:=by rw [jF];(repeat' split)<;>simp
  refine S.ex fun S=>?_
  refine S.bq 8 .nil [R ef.length pD.1] fun ac w β S=>?_
  exact cx S (show mR c=ef by clear S;(rw [jF];rfl)) rfl ev
 refine S.go 6 .nil fun ac w β S=>?_
 refine il S (fun ac w=>∃(ef:List Int) (dL:_) (dU:_) (u:_) (N:_) (β:_),(ef=(if a3 c.aX 0 3 then [] else [1])++(if a3 c.post 0 255 then [] else [2])++(if c.post≠0/\c.eV=false then [3] else [])++(if c.aX=2/\c.post≠0 then [4] else []))/\aj Tryz.prog Tryz.f327.ntmps w0 ab u N β ⟨[(3,.v (R ef.length dL.1))],[]⟩ ac w/\ad w0 ab u N dU ef dL) ?_ ?_
 ·clear S;intro S
  exact S.dF 2 .nil fun ac w β S=>⟨rfl,gT,qp,rz,_,_,_,(by clear S;(first|(rw [if_pos (by assumption)];simp [*];done)|(rw [if_neg (by simp [*])];simp [*];done)|(rw [mY];(repeat' split)<;>first|rfl|(simp;done)|(exfalso;simp_all;done)|(simp_all;done)))),S.z,sq⟩
 clear S sq
 rintro ac w ⟨ef,dL,dU,u,N,β,jF,S,hT⟩
 have vH:ef.length<=4:=by rw [jF];(repeat' split)<;>simp
 refine S.ex fun S=>?_
 refine S.bq 8 .nil [R ef.length dL.1] fun ac w β S=>?_
 exact cx S (show mR c=ef by clear S;(rw [jF];rfl)) rfl hT
theorem X_ (w0:World) (c:fo):Calls Tryz.prog 291 [GT.val c ()].toArray w0 (fun e w'=>e= .returned (B (mS c))/\bu ab w0 w'):=by
 refine Calls.run ab Tryz.func291 ?_
 intro ac β S
 refine S.go 9 .nil fun ac w β S=>S.cN (r:=mR c) (d:=4) (X9 w c) fun ac w N ae br S up aD d4=>?_
 clear up d4
 exact S.aq 6 .nil [B (((mR c).length:Int)==0)] (a6 (by clear S;first|rfl|(simp [mS, *];done)|(simp [mS, *];omega)|(simp_all [mS];done)|(simp_all [mS];omega)))
theorem m4 {p:Prop} (h:p:=by clear S;(unfold uP;(repeat' split)<;>first|rfl|(exfalso;simp_all;done)|(exfalso;omega)|(rw [Bool.eq_iff_iff];simp [df.ext_iff, *];done)|(rw [Bool.eq_iff_iff];simp_all [df.ext_iff,and_assoc];done)|(rw [Bool.eq_iff_iff];simp_all [df.ext_iff,and_assoc];omega))):p:=h
theorem Ya (w0:World) (x:df):Calls Tryz.prog 311 [GT.val x ()].toArray w0 (fun e w'=>e= .returned (B (uP x))/\bu ab w0 w'):=by
 refine Calls.run ab Tryz.func311 ?_
 intro ac β S
 refine S.aI 21 .nil (x.kind==0) (fun ac w β h1 a8 S=>?_) (fun ac w β h1 a8 S=>?_)
 ·refine S.aI 10 .nil (x.page==0) (fun ac w β aF cB S=>?_) (fun ac w β aF cB S=>?_)
  ·refine S.bb 5 .nil (!x.wr) (fun ac w β bl S=>?_) (fun ac w β bl S=>?_)
   ·have cR:=cn bl
    exact S.aq 8 .nil [B (x.n==0)] (a6 m4)
   have cD:=b_ bl
   exact S.aq 8 .nil [B false] (a6 m4)
  exact S.aq 13 .nil [B false] (a6 m4)
 refine S.aI 6 .nil (x.kind==4) (fun ac w β db fx S=>?_) (fun ac w β db fx S=>?_)
 ·refine S.aI 7 .nil (x.page==0) (fun ac w β c3 dY S=>?_) (fun ac w β c3 dY S=>?_)
  ·refine S.bb 5 .nil (!x.wr) (fun ac w β dZ S=>?_) (fun ac w β dZ S=>?_)
   ·have jD:=cn dZ
    exact S.aq 8 .nil [B (x.n==0)] (a6 m4)
   have h9:=b_ dZ
   exact S.aq 8 .nil [B false] (a6 m4)
  exact S.aq 13 .nil [B false] (a6 m4)
 refine S.aI 7 .nil (x.kind==1) (fun ac w β oj pb S=>?_) (fun ac w β oj pb S=>?_)
 ·refine S.bb 7 (.cons (aE fun w hw=>ha w x.page 0 3) .nil) (a3 x.page 0 3) (fun ac w β jE S=>?_) (fun ac w β jE S=>?_)
  ·have pc:=cU jE
   exact S.aq 8 .nil [B (x.n==0)] (a6 m4)
  have xO:=dm jE
  exact S.aq 8 .nil [B false] (a6 m4)
 refine S.aI 8 .nil (x.kind==2) (fun ac w β hj Im S=>?_) (fun ac w β hj Im S=>?_)
 ·refine S.bb 10 (.cons (aE fun w hw=>ha w x.n 0 99) .nil) (a3 x.n 0 99) (fun ac w β pe S=>?_) (fun ac w β pe S=>?_)
  ·have tc:=cU pe
   refine S.aI 5 .nil (x.page==0) (fun ac w β gM jC S=>?_) (fun ac w β gM jC S=>?_)
   ·exact S.aq 8 .nil [B (!x.wr)] (a6 m4)
   exact S.aq 8 .nil [B false] (a6 m4)
  have p6:=dm pe
  exact S.aq 13 .nil [B false] (a6 m4)
 refine S.aI 6 .nil (x.kind==3) (fun ac w β lP z8 S=>?_) (fun ac w β lP z8 S=>?_)
 ·refine S.bb 7 (.cons (aE fun w hw=>ha w x.n 0 99) .nil) (a3 x.n 0 99) (fun ac w β i_ S=>?_) (fun ac w β i_ S=>?_)
  ·have nL:=cU i_
   refine S.aI 5 .nil (x.page==0) (fun ac w β lQ uU S=>?_) (fun ac w β lQ uU S=>?_)
   ·exact S.aq 8 .nil [B (!x.wr)] (a6 m4)
   exact S.aq 8 .nil [B false] (a6 m4)
  have z9:=dm i_
  exact S.aq 13 .nil [B false] (a6 m4)
 exact S.aq 10 .nil [B false] (a6 m4)
theorem sc {p:Prop} (h:p:=by clear S;first|rfl|(simp [kz, *];done)|(simp [kz, *];omega)|(simp_all [kz];done)|(simp_all [kz];omega)):p:=h
theorem O8 (w0:World) (g:ax) (bc:c6) (aJ:bT w0 g bc):Calls Tryz.prog 245 [GT.val g bc].toArray w0 (fun e w'=>e= .returned (B (kz g))/\bu ab w0 w'):=by
 refine Calls.run ab Tryz.func245 ?_
 intro ac β S
 have iy:g.prog.length<=4194304:=af.le (az.prog (d:=g) aJ)
 have iA:g.written.length<=4194304:=af.le (az.written (d:=g) aJ)
 have ix:g.live.length<=4194304:=af.le (az.live (d:=g) aJ)
 have iz:g.seen.length<=4194304:=af.le (az.seen (d:=g) aJ)
 refine S.bb 12 (.cons (aE fun w hw=>Yp w g.prog bc.prog (bN (az.prog (d:=g) (S.arg aJ)) hw)) .nil) (j7 g.prog) (fun ac w β h1 S=>?_) (fun ac w β h1 S=>?_)
 ·refine S.bb 5 (.cons (aE fun w hw=>ha w g.acc 0 99) .nil) (a3 g.acc 0 99) (fun ac w β an S=>?_) (fun ac w β an S=>?_)
  ·have b4:=cU an
   refine S.bb 5 (.cons (aE fun w hw=>ha w g.aw 0 12) .nil) (a3 g.aw 0 12) (fun ac w β b2 S=>?_) (fun ac w β b2 S=>?_)
   ·have dK:=cU b2
    refine S.bb 5 (.cons (aE fun w hw=>Ha w g.written bc.written (bN (az.written (d:=g) (S.arg aJ)) hw) 4 8 (by omega) (by omega)) .nil) (gV g.written 4 8) (fun ac w β cR S=>?_) (fun ac w β cR S=>?_)
    ·have gC:=wI cR
     refine S.bb 5 (.cons (aE fun w hw=>Ha w g.live bc.live (bN (az.live (d:=g) (S.arg aJ)) hw) 4 8 (by omega) (by omega)) .nil) (gV g.live 4 8) (fun ac w β db S=>?_) (fun ac w β db S=>?_)
     ·have fx:=wI db
      refine S.bb 5 (.cons (aE fun w hw=>X_ w g.aN) .nil) (mS g.aN) (fun ac w β c3 S=>?_) (fun ac w β c3 S=>?_)
      ·refine S.bb 5 (.cons (aE fun w hw=>C6 w g.aB) .nil) (a3 g.aB 0 255) (fun ac w β eL S=>?_) (fun ac w β eL S=>?_)
       ·have h8:=cU eL
        refine S.bb 5 (.cons (aE fun w hw=>Ya w g.exit) .nil) (uP g.exit) (fun ac w β jD S=>?_) (fun ac w β jD S=>?_)
        ·exact S.aq 9 .nil [B (decide ((g.seen.length:Int)<=40))] (a6 sc)
        exact S.aq 9 .nil [B false] (a6 sc)
       have nK:=dm eL
       exact S.aq 14 .nil [B false] (a6 sc)
      exact S.aq 19 .nil [B false] (a6 sc)
     exact S.aq 24 .nil [B false] (a6 sc)
    exact S.aq 29 .nil [B false] (a6 sc)
   have lM:=dm b2
   exact S.aq 34 .nil [B false] (a6 sc)
  have pb:=dm an
  exact S.aq 39 .nil [B false] (a6 sc)
 exact S.aq 44 .nil [B false] (a6 sc)
theorem C7 (w0:World) (r:Int):Calls Tryz.prog 312 [aa r].toArray w0 (fun e w'=>e= .returned (B (a3 r 0 3))/\bu ab w0 w'):=by
 refine Calls.run ab Tryz.func312 ?_
 intro ac β S
 exact S.aq 13 (.cons (aE fun w hw=>ha w r 0 3) .nil) [B (a3 r 0 3)] (a6 (by clear S;first|rfl|(simp [a3, *];done)|(simp [a3, *];omega)|(simp_all [a3];done)|(simp_all [a3];omega)))
theorem J9 {p:Prop} (h:p:=by clear S;first|rfl|(simp [e8, *];done)|(simp [e8, *];omega)|(simp_all [e8];done)|(simp_all [e8];omega)):p:=h
theorem xc (w0:World) (bd:Int) (need:Int):Calls Tryz.prog 247 [aa bd,aa need].toArray w0 (fun e w'=>e= .returned (B (e8 bd need))/\bu ab w0 w'):=by
 refine Calls.run ab Tryz.func247 ?_
 intro ac β S
 refine S.bb 10 (.cons (aE fun w hw=>C7 w bd) .nil) (a3 bd 0 3) (fun ac w β h1 S=>?_) (fun ac w β h1 S=>?_)
 ·have a8:=cU h1
  refine S.bb 4 (.cons (aE fun w hw=>C7 w need) .nil) (a3 need 0 3) (fun ac w β aF S=>?_) (fun ac w β aF S=>?_)
  ·have cB:=cU aF
   exact S.aq 10 (.cons (qC (x:=bd) (y:=need)) .nil) [B ((jH bd need)==need)] (a6 J9)
  have dK:=dm aF
  exact S.aq 10 .nil [B false] (a6 J9)
 have c7:=dm h1
 exact S.aq 14 .nil [B false] (a6 J9)
theorem oB {p:Prop} (h:p:=by clear S;(symm;rw [←Bool.not_eq_true];intro hc;simp only [hP,og,qN,Bool.and_eq_true,decide_eq_true_eq,beq_iff_eq] at hc;first|omega|(simp_all;done)|(simp_all;omega)|(have hx:=sP (k:=k) hc.1.2 (by omega);simp_all;done)|(have hx:=FF (k:=j) hc.2 (by omega);unfold nH at hx;split at hx<;>first|(simp_all;done)|(simp_all;omega)))):p:=h
theorem Yk (w0:World) (m:aO) (pm:fj) (hm:bT w0 m pm):Calls Tryz.prog 131 [GT.val m pm].toArray w0 (fun e w'=>e= .returned (B (hP m))/\bu ab w0 w'):=by
 refine Calls.run ab Tryz.func131 ?_
 intro ac β S
 have JB:m.outer.length<=4194304:=af.le (aU.outer (d:=m) hm)
 have JA:m.out.length<=4194304:=af.le (aU.out (d:=m) hm)
 have Jy:m.aT.length<=4194304:=af.le (aU.aT (d:=m) hm)
 have Jz:m.U.length<=4194304:=af.le (aU.U (d:=m) hm)
 have JC:m.outs.length<=4194304:=af.le (aU.outs (d:=m) hm)
 have JD:m.tables.length<=4194304:=af.le (aU.tables (d:=m) hm)
 refine S.bb 15 (.cons (aE fun w hw=>ha w (m.U.length:Int) 1 2) .nil) (!(a3 (m.U.length:Int) 1 2)) (fun ac w β h1 S=>?_) (fun ac w β h1 S=>?_)
 ·have an:=cn h1
  have b4:=dm an
  exact S.aq 59 .nil [B false] (a6 oB)
 have b2:=b_ h1
 have dK:=cU b2
 refine S.aI 9 .nil ((m.tables.length:Int) != (m.U.length:Int)) (fun ac w β cR gC S=>?_) (fun ac w β cR gC S=>?_)
 ·exact S.aq 50 .nil [B false] (a6 oB)
 refine S.bb 6 (.cons (aE fun w hw=>Ha w m.outer pm.outer (bN (aU.outer (d:=m) (S.arg hm)) hw) 8 12 (by omega) (by omega)) .nil) (!(gV m.outer 8 12)) (fun ac w β db S=>?_) (fun ac w β db S=>?_)
 ·have et:=cn db
  exact S.aq 44 .nil [B false] (a6 oB)
 have c3:=b_ db
 have dY:=wI c3
 refine S.aI 6 .nil ((m.out.length:Int) != 8) (fun ac w β dZ hA S=>?_) (fun ac w β dZ hA S=>?_)
 ·exact S.aq 38 .nil [B false] (a6 oB)
 refine S.aI 6 .nil ((m.aT.length:Int) != 8) (fun ac w β h9 lM S=>?_) (fun ac w β h9 lM S=>?_)
 ·exact S.aq 32 .nil [B false] (a6 oB)
 refine S.aI 6 .nil (decide ((m.outs.length:Int)>40)) (fun ac w β lO Il S=>?_) (fun ac w β lO Il S=>?_)
 ·exact S.aq 26 .nil [B false] (a6 oB)
 refine S.bb 6 (.cons (aE fun w hw=>C6 w m.aB) .nil) (!(a3 m.aB 0 255)) (fun ac w β nM S=>?_) (fun ac w β nM S=>?_)
 ·have iZ:=cn nM
  have p5:=dm iZ
  exact S.aq 20 .nil [B false] (a6 oB)
 have lj:=b_ nM
 have uT:=cU lj
 refine S.bb 6 (.cons (aE fun w hw=>ha w m.aX 0 3) .nil) (!(a3 m.aX 0 3)) (fun ac w β rW S=>?_) (fun ac w β rW S=>?_)
 ·have gM:=cn rW
  have jC:=dm gM
  exact S.aq 14 .nil [B false] (a6 oB)
 have gN:=b_ rW
 have td:=cU gN
 refine S.bb 7 (.cons (aE fun w hw=>ha w m.owned 0 1000000000) .nil) (!(a3 m.owned 0 1000000000)) (fun ac w β hB S=>?_) (fun ac w β hB S=>?_)
 ·have i_:=cn hB
  have nL:=dm i_
  exact S.aq 7 .nil [B false] (a6 oB)
 have lQ:=b_ hB
 have uU:=cU lQ
 refine S.go 13 .nil fun ac w β S=>?_
 refine dc (fun a5 ac w=>∃(k:Nat) (u:_) (N:_) (β:_),a5=m.U.length-k/\(k<=m.U.length)/\((m.U.take k).all kz=true)/\aj Tryz.prog Tryz.f131.ntmps w0 ab u N β ⟨[(1,.p 0 0),(64,.v (R m.U.length pm.U.1)),(65,.v (aa (m.U.length:Int))),(66,.v (aa (k:Int)))],[GT.cells m pm]⟩ ac w) _ ⟨0,_,_,_,rfl,cv,(by simp),S.z⟩ ?_
 clear S
 rintro f33 a5 D2 ac w ⟨k,u,N,β,rfl,hk,he,S⟩
 refine S.rs fun S=>?_
 refine S.aI 6 .nil (decide ((k:Int)<(m.U.length:Int))) (fun ac w β kA pd S=>?_) (fun ac w β kA pd S=>?_)
 ·refine S.bb 20 (.cons (b6 (aU.U (d:=m) (S.arg hm)) k Tryz.underlying71) (.cons (dy (aU.U (d:=m) (S.arg hm)) 70 k) (.cons (aE fun w hw=>O8 w (el m.U k) (pm.U.2 k) (bN (af.el (aU.U (d:=m) (S.arg hm)) k (by omega)) hw)) .nil))) (!(kz (el m.U k))) (fun ac w β ja S=>?_) (fun ac w β ja S=>?_)
  ·have qQ:=cn ja
   exact S.aq 7 .nil [B false] (a6 oB)
  have qR:=b_ ja
  refine S.ge 8 (.cons (cg (k:Int) 1) .nil) f33 fun ac w β S=>D2.of (m.U.length-(k+1)) _ _ (by omega) ⟨k+1,_,_,_,rfl,?_,?_,S.z⟩
  ·exact cO
  ·clear S;exact pP (by omega) he (by first|assumption|(simp only [g5,a3] at*;simp_all;done)|(simp_all;done)|(simp_all;omega))
 refine S.go 16 .nil fun ac w β S=>?_
 refine dc (fun a5 ac w=>∃(j:Nat) (u:_) (N:_) (β:_),a5=m.outer.length-j/\(j<=m.outer.length)/\((List.range j).all (nH m)=true)/\aj Tryz.prog Tryz.f131.ntmps w0 ab u N β ⟨[(1,.p 0 0),(75,.v (R m.outer.length pm.outer.1)),(76,.v (aa (m.outer.length:Int))),(77,.v (aa (j:Int)))],[GT.cells m pm]⟩ ac w) _ ⟨0,_,_,_,rfl,cv,(by rfl),S.z⟩ ?_
 clear S
 rintro f40 a5 Si ac w ⟨j,u,N,β,rfl,b0,bD,S⟩
 refine S.rs fun S=>?_
 have yi:m.outer.length=8:=by omega
 have aez:m.out.length=8:=by omega
 refine S.aI 6 .nil (decide ((j:Int)<(m.outer.length:Int))) (fun ac w β j_ xS S=>?_) (fun ac w β j_ xS S=>?_)
 ·refine S.bb 18 (.cons (b6 (aU.outer (d:=m) (S.arg hm)) j Tryz.underlying64) (.cons (dy (aU.outer (d:=m) (S.arg hm)) 111 j) (.cons (aE fun w hw=>ny w) (.cons (qv (t:=111) (el m.outer j) (⟨-1,0⟩:aQ) (by kernel_rfl)) .nil)))) (decide ((el m.outer j)=(⟨-1,0⟩:aQ))) (fun ac w β Ad S=>?_) (fun ac w β Ad S=>?_)
  ·refine S.bb 12 (.cons (b6 (aU.out (d:=m) (S.arg hm)) j Tryz.underlying22) (.cons (cj (aU.out (d:=m) (S.arg hm)) 38 j) (.cons (aE fun w hw=>G9 w (el m.out j) (pm.out.2 j) (bN (af.el (aU.out (d:=m) (S.arg hm)) j (by omega)) hw)) .nil))) (!(hh (el m.out j))) (fun ac w β p8 S=>?_) (fun ac w β p8 S=>?_)
   ·have om:=cn p8
    exact S.aq 7 .nil [B false] (a6 oB)
   have rX:=b_ p8
   refine S.ge 8 (.cons (cg (j:Int) 1) .nil) f40 fun ac w β S=>Si.of (m.outer.length-(j+1)) _ _ (by omega) ⟨j+1,_,_,_,rfl,?_,?_,S.z⟩
   ·exact cO
   ·clear S;(refine ru bD ?_;unfold nH;(repeat' split)<;>first|(exfalso;simp_all;done)|(simp_all;done)|(simp_all;omega))
  refine S.bb 8 (.cons (aE fun w hw=>xc w (el m.outer j).bd 1) .nil) (!(e8 (el m.outer j).bd 1)) (fun ac w β Ae S=>?_) (fun ac w β Ae S=>?_)
  ·have DO:=cn Ae
   exact S.aq 17 .nil [B false] (a6 oB)
  have Af:=b_ Ae
  have Rf:=qJ Af
  have al9:(el m.out j).length<=4194304:=af.le (af.el (aU.out (d:=m) (S.arg hm)) j (by omega))
  refine S.aI 10 (.cons (b6 (aU.out (d:=m) (S.arg hm)) j Tryz.underlying22) (.cons (cj (aU.out (d:=m) (S.arg hm)) 38 j) .nil)) (decide (((el m.out j).length:Int)>0)) (fun ac w β Ag Rg S=>?_) (fun ac w β Ag Rg S=>?_)
  ·exact S.aq 7 .nil [B false] (a6 oB)
  refine S.ge 8 (.cons (cg (j:Int) 1) .nil) f40 fun ac w β S=>Si.of (m.outer.length-(j+1)) _ _ (by omega) ⟨j+1,_,_,_,rfl,?_,?_,S.z⟩
  ·exact cO
  ·clear S;(refine ru bD ?_;unfold nH;(repeat' split)<;>first|(exfalso;simp_all;done)|(simp_all;done)|(simp_all;omega))
 exact S.aq 12 .nil [B true] (a6 (by clear S;(first|rfl|(symm;simp only [hP,og,qN,Bool.and_eq_true,decide_eq_true_eq,beq_iff_eq];(repeat' apply And.intro);all_goals first|assumption|omega|(simp_all;done)|(simp_all;omega)|(exact eR (by omega) he)|((have ky:j=8:=(by omega));subst ky;exact bD)))))
theorem vQ {p:Prop} (h:p:=by clear S;(first|(symm;rw [←Bool.not_eq_true];intro hc;simp only [eD,p2,Bool.and_eq_true] at hc;(first|(simp_all;done)|(simp_all;omega)))|(rw [D_ (xM (k:=i) (by omega) Cp hu (Nt (by assumption)))])|(rw [D_ (xM (k:=i) (by omega) Cp hu ((Cq vI).trans (xM (k:=k) (by omega) VL oA (Nu (by omega) (by assumption)))))])|(unfold eD s4 p2;rw [fb (by omega)] at hu;rw [hu];simp_all;done))):p:=h
theorem O_ (w0:World) (h:ah) (ai:cb) (a1:bT w0 h ai):Calls Tryz.prog 40 [GT.val h ai].toArray w0 (fun e w'=>e= .returned (B (eD h))/\bu ab w0 w'):=by
 refine Calls.run ab Tryz.func40 ?_
 intro ac β S
 have m1:h.mem.length<=4194304:=af.le (bz.mem (d:=h) a1)
 have m2:h.I.length<=4194304:=af.le (bz.I (d:=h) a1)
 have mZ:h.buf.length<=4194304:=af.le (bz.buf (d:=h) a1)
 have m0:h.ag.length<=4194304:=af.le (bz.ag (d:=h) a1)
 refine S.bb 14 (.cons (aE fun w hw=>Pd w h.mem ai.mem (bN (bz.mem (d:=h) (S.arg a1)) hw) 12) .nil) (!(h6 h.mem 12)) (fun ac w β h1 S=>?_) (fun ac w β h1 S=>?_)
 ·have an:=cn h1
  exact S.aq 27 .nil [B false] (a6 vQ)
 have aF:=b_ h1
 refine S.bb 7 (.cons (aE fun w hw=>ha w (h.I.length:Int) 1 3) .nil) (!(a3 (h.I.length:Int) 1 3)) (fun ac w β b2 S=>?_) (fun ac w β b2 S=>?_)
 ·have bl:=cn b2
  have c7:=dm bl
  exact S.aq 20 .nil [B false] (a6 vQ)
 have cD:=b_ b2
 have e_:=cU cD
 refine S.bb 6 (.cons (aE fun w hw=>O1 w h.buf ai.buf (bN (bz.buf (d:=h) (S.arg a1)) hw)) .nil) (!(oc h.buf)) (fun ac w β et S=>?_) (fun ac w β et S=>?_)
 ·have c3:=cn et
  exact S.aq 14 .nil [B false] (a6 vQ)
 have eL:=b_ et
 refine S.bb 7 (.cons (aE fun w hw=>O1 w h.ag ai.ag (bN (bz.ag (d:=h) (S.arg a1)) hw)) .nil) (!(oc h.ag)) (fun ac w β dZ S=>?_) (fun ac w β dZ S=>?_)
 ·have jD:=cn dZ
  exact S.aq 7 .nil [B false] (a6 vQ)
 have h9:=b_ dZ
 refine S.go 5 .nil fun ac w β S=>S.mG (α:=Bool) (m:=12) (by':=1) (d:=31) (by omega) (show 12<=4194304 by omega) fun ac w N nj pL S up eo d18=>?_
 clear up d18
 refine S.go 13 .nil fun ac w β S=>?_
 refine dc (fun a5 ac w=>∃(i:Nat) (us:List Bool) (dg:_) (hq:_) (u:_) (N:_) (β:_),a5=h.I.length-i/\(i<=h.I.length)/\((h.I.take i).foldl pH (some (List.replicate 12 false))=some us)/\(us.length=12)/\aj Tryz.prog Tryz.f40.ntmps w0 ab u N β ⟨[(3,.v (R 12 dg.1)),(33,.v (R h.I.length ai.I.1)),(34,.v (aa (h.I.length:Int))),(35,.v (aa (i:Int)))],[GT.cells h ai]⟩ ac w/\ad w0 ab u N hq us dg) _ ⟨0,(List.replicate 12 (GT.eK:Bool)),nj,pL,_,_,_,rfl,cv,(by rfl),(by rfl),S.z,eo⟩ ?_
 clear S eo
 rintro f22 a5 Jk ac w ⟨i,us,dg,hq,u,N,β,rfl,hi,hu,aeY,S,fU⟩
 refine S.rs fun S=>?_
 refine S.aI 6 .nil (decide ((i:Int)<(h.I.length:Int))) (fun ac w β gM jC S=>?_) (fun ac w β gM jC S=>?_)
 ·refine S.bb 21 (.cons (b6 (bz.I (d:=h) (S.arg a1)) i Tryz.underlying28) (.cons (dy (bz.I (d:=h) (S.arg a1)) 74 i) (.cons (aE fun w hw=>Yk w (el h.I i) (ai.I.2 i) (bN (af.el (bz.I (d:=h) (S.arg a1)) i (by omega)) hw)) .nil))) (!(hP (el h.I i))) (fun ac w β gN S=>?_) (fun ac w β gN S=>?_)
  ·have lP:=cn gN
   exact S.aq 7 .nil [B false] (a6 vQ)
  have hB:=b_ gN
  have lN:=q3 hB
  have OB:(el h.I i).outer.length<=4194304:=af.le (aU.outer (d:=(el h.I i)) (af.el (bz.I (d:=h) (S.arg a1)) i (by omega)))
  refine S.go 12 .nil fun ac w β S=>?_
  refine dc (fun a5 ac w=>∃(k:Nat) (kl:List Bool) (kN:_) (mF:_) (u:_) (N:_) (β:_),a5=(el h.I i).outer.length-k/\(k<=(el h.I i).outer.length)/\(((el h.I i).outer.take k).foldl n0 (some us)=some kl)/\(kl.length=12)/\aj Tryz.prog Tryz.f40.ntmps w0 ab u N β ⟨[(3,.v (R 12 kN.1)),(33,.v (R h.I.length ai.I.1)),(34,.v (aa (h.I.length:Int))),(35,.v (aa (i:Int))),(43,.v (R (el h.I i).outer.length (ai.I.2 i).outer.1)),(44,.v (aa ((el h.I i).outer.length:Int))),(45,.v (aa (k:Int)))],[GT.cells h ai,GT.cells (el h.I i) (ai.I.2 i)]⟩ ac w/\ad w0 ab u N mF kl kN) _ ⟨0,us,dg,hq,_,_,_,rfl,cv,(by rfl),(by omega),S.z,fU⟩ ?_
  clear S fU
  rintro f34 a5 Sh ac w ⟨k,kl,kN,mF,u,N,β,rfl,hk,oA,aeZ,S,gw⟩
  refine S.rs fun S=>?_
  have vI:hP (el h.I i)=true:=by assumption
  have vM:=U6 vI k
  have aeE:=(q3 vI).1
  refine S.aI 6 .nil (decide ((k:Int)<((el h.I i).outer.length:Int))) (fun ac w β x5 xQ S=>?_) (fun ac w β x5 xQ S=>?_)
  ·refine S.aI 21 (.cons (b6 (aU.outer (d:=(el h.I i)) (af.el (bz.I (d:=h) (S.arg a1)) i (by omega))) k Tryz.underlying64) (.cons (dy (aU.outer (d:=(el h.I i)) (af.el (bz.I (d:=h) (S.arg a1)) i (by omega))) 111 k) .nil)) (decide ((el (el h.I i).outer k).page<0)) (fun ac w β qQ xR S=>?_) (fun ac w β qQ xR S=>?_)
   ·refine S.ge 9 (.cons (cg (k:Int) 1) .nil) f34 fun ac w β S=>Sh.of ((el h.I i).outer.length-(k+1)) _ _ (by omega) ⟨k+1,kl,kN,mF,_,_,_,rfl,?_,?_,?_,S.z,gw⟩
    ·exact cO
    ·clear S;(rw [ta (by omega),oA];first|exact Cr (by omega)|exact sF (by omega) (by assumption)|exact sF (by omega) (by simp_all))
    ·clear S;(first|omega|(simp;omega))
   refine S.bb 13 (.cons (eI gw.ak (l:=12) (k:=(el (el h.I i).outer k).page.toNat) (i:=(el (el h.I i).outer k).page) (by omega) (by omega) (by omega) Tryz.underlying39 (by kernel_rfl)) (.cons (cj gw.ak 4 ((el (el h.I i).outer k).page.toNat)) .nil)) (el kl (el (el h.I i).outer k).page.toNat) (fun ac w β kZ S=>?_) (fun ac w β kZ S=>?_)
   ·exact S.aq 7 .nil [B false] (a6 vQ)
   refine S.go 8 (.cons (eI gw.ak (l:=12) (k:=(el (el h.I i).outer k).page.toNat) (i:=(el (el h.I i).outer k).page) (by omega) (by omega) (by omega) Tryz.underlying39 (by kernel_rfl)) .nil) fun ac w β S=>S.fM (α:=Bool) gw (t:=4) (k:=(el (el h.I i).outer k).page.toNat) (j:=0) (off:=kN.1.off+(el (el h.I i).outer k).page.toNat*1) (v:=B true) (y:=true) (q:=()) (fun _ _ _=>⟨ab,trivial,fun _ h=>False.elim h⟩) fun w N zg k4 S up qk d44 ap6 agO=>?_
   clear up d44 gw agO
   have TK:(kl.set (el (el h.I i).outer k).page.toNat true).length=kl.length:=List.length_set
   refine S.ge 7 (.cons (cg (k:Int) 1) .nil) f34 fun ac w β S=>Sh.of ((el h.I i).outer.length-(k+1)) _ _ (by omega) ⟨k+1,(kl.set (el (el h.I i).outer k).page.toNat true),(kN.1,k4),zg,_,_,_,rfl,?_,?_,?_,S.z,qk⟩
   ·exact cO
   ·clear S;(rw [ta (by omega),oA];first|exact Cr (by omega)|exact sF (by omega) (by assumption)|exact sF (by omega) (by simp_all))
   ·clear S;(first|omega|(simp;omega))
  refine S.ge 11 (.cons (cg (i:Int) 1) .nil) f22 fun ac w β S=>Jk.of (h.I.length-(i+1)) _ _ (by omega) ⟨i+1,kl,kN,mF,_,_,_,rfl,?_,?_,?_,S.z,gw⟩
  ·exact cO
  ·clear S;(rw [ta (by omega),hu,Cq (by assumption)];rw [fb (by omega)] at oA;exact oA)
  ·clear S;omega
 exact S.aq 12 .nil [B true] (a6 vQ)
theorem S9 {p:Prop} (h:p:=by clear S;first|rfl|(simp [lK, *];done)|(simp [lK, *];omega)|(simp_all [lK];done)|(simp_all [lK];omega)):p:=h
theorem O2 (w0:World) (g:ax) (bc:c6) (aJ:bT w0 g bc):Calls Tryz.prog 132 [GT.val g bc].toArray w0 (fun e w'=>e= .returned (B (lK g))/\bu ab w0 w'):=by
 refine Calls.run ab Tryz.func132 ?_
 intro ac β S
 have iy:g.prog.length<=4194304:=af.le (az.prog (d:=g) aJ)
 have iA:g.written.length<=4194304:=af.le (az.written (d:=g) aJ)
 have ix:g.live.length<=4194304:=af.le (az.live (d:=g) aJ)
 have iz:g.seen.length<=4194304:=af.le (az.seen (d:=g) aJ)
 refine S.bb 13 (.cons (fT (s:=Instr.build 68 [].toArray) (v:= .agg [aa 0,aa 0,B false,aa 0].toArray) (fun w=>by kernel_rfl)) (.cons (CE (t:=68) g.exit (⟨0,0,false,0⟩:df) (by kernel_rfl)) .nil)) (decide (g.exit=(⟨0,0,false,0⟩:df))) (fun ac w β h1 S=>?_) (fun ac w β h1 S=>?_)
 ·exact S.aq 8 .nil [B (!g.halted)] (a6 S9)
 exact S.aq 8 .nil [B false] (a6 S9)
theorem Th {p:Prop} (h:p:=by clear S;(first|(exact(Nz (by assumption)).symm)|(unfold gp;rw [if_pos (by assumption)];done))):p:=h
theorem Pk (w0:World) (p:Int):Calls Tryz.prog 248 [aa p].toArray w0 (fun e w'=>e= .returned (aa (gp p))/\bu ab w0 w'):=by
 refine Calls.run ab Tryz.func248 ?_
 intro ac β S
 refine S.bb 13 (.cons (aE fun w hw=>C6 w p) .nil) (!(a3 p 0 255)) (fun ac w β h1 S=>?_) (fun ac w β h1 S=>?_)
 ·have an:=cn h1
  have b4:=dm an
  exact S.aq 7 .nil [aa (-1)] (b3 Th)
 have b2:=b_ h1
 have dK:=cU b2
 have G3:=XM p
 exact S.aq 13 (.cons (GU (s:=3) (d:=185) (x:=p) Tryz.underlying3 Tryz.underlying185 (by omega) (by omega)) (.cons (aE fun w hw=>Zk w p (by omega) (by omega)) (.cons (g8 (qL p) 1) .nil))) [aa ((qL p)-1)] (b3 Th)
theorem Pj (w0:World) (g:ax) (bc:c6) (aJ:bT w0 g bc):Calls Tryz.prog 133 [GT.val g bc].toArray w0 (fun e w'=>e= .returned (B (nI g))/\bu ab w0 w'):=by
 refine Calls.run ab Tryz.func133 ?_
 intro ac β S
 have iy:g.prog.length<=4194304:=af.le (az.prog (d:=g) aJ)
 have iA:g.written.length<=4194304:=af.le (az.written (d:=g) aJ)
 have ix:g.live.length<=4194304:=af.le (az.live (d:=g) aJ)
 have iz:g.seen.length<=4194304:=af.le (az.seen (d:=g) aJ)
 refine S.bb 11 (.cons (aE fun w hw=>O2 w g bc (bN (S.arg aJ) hw)) .nil) (lK g) (fun ac w β h1 S=>?_) (fun ac w β h1 S=>?_)
 ·refine S.bb 5 .nil g.aN.eV (fun ac w β an S=>?_) (fun ac w β an S=>?_)
  ·have qF:=Cw g.aB
   exact S.aq 9 (.cons (aE fun w hw=>Pk w g.aB) .nil) [B (decide ((gp g.aB)>=0))] (a6 (by clear S;(simp [nI, *])))
  exact S.aq 9 .nil [B false] (a6 (by clear S;(simp [nI, *])))
 exact S.aq 14 .nil [B false] (a6 (by clear S;(simp [nI, *])))
theorem S_ {p:Prop} (h:p:=by clear S;(first|(unfold bF;rw [if_pos (by omega)];done)|(unfold bF;rw [if_pos (by omega)];first|rfl|(simp;done))|(unfold bF;rw [if_neg (by omega)];done)|(unfold bF;rw [if_neg (by omega)];first|rfl|(simp;done)))):p:=h
theorem uy (w0:World) (p:List c_) (pp:aC c_) (bD:bT w0 p pp) (aw:Int):Calls Tryz.prog 134 [R p.length pp.1,aa aw].toArray w0 (fun e w'=>e= .returned (GT.val (bF p aw) ())/\bu ab w0 w'):=by
 refine Calls.run ab Tryz.func134 ?_
 intro ac β S
 have JF:p.length<=4194304:=af.le bD
 refine S.bb 15 (.cons (aE fun w hw=>jo w aw (p.length:Int) (by omega)) .nil) (!(a3 aw 0 ((p.length:Int)-1))) (fun ac w β h1 S=>?_) (fun ac w β h1 S=>?_)
 ·have an:=cn h1
  have b4:=dm an
  exact S.aq 8 (.cons (fT (s:=Instr.build 128 [(0,aa 7)].toArray) (v:= .agg [aa 7,aa 0].toArray) (fun w=>by kernel_rfl)) .nil) [GT.val (⟨7,0⟩:c_) ()] (hU (p:=()) S_)
 have b2:=b_ h1
 have dK:=cU b2
 exact S.aq 13 (.cons (cp (S.arg bD) aw Tryz.underlying63) (.cons (dy (S.arg bD) 128 aw.toNat) .nil)) [GT.val (el p aw.toNat) ()] (hU (p:=()) S_)
theorem tq {p:Prop} (h:p:=by clear S;(unfold bZ;first|(rw [if_pos (by assumption)];done)|(rw [if_neg (by simp [*]),if_pos (by assumption)];done)|(rw [if_neg (by simp [*]),if_neg (by simp [*])];unfold DE;first|(rw [if_pos (by assumption)];done)|(rw [if_neg (by assumption),if_pos (by assumption)];done)|(rw [if_neg (by assumption),if_neg (by assumption),if_pos (by assumption)];done)|(rw [if_neg (by assumption),if_neg (by assumption),if_neg (by assumption),if_pos (by assumption)];done)|(rw [if_neg (by assumption),if_neg (by assumption),if_neg (by assumption),if_neg (by assumption),if_pos (by assumption)];done)|(rw [if_neg (by assumption),if_neg (by assumption),if_neg (by assumption),if_neg (by assumption),if_neg (by assumption)];done)))):p:=h
theorem zH (w0:World) (g:ax) (bc:c6) (aJ:bT w0 g bc):Calls Tryz.prog 42 [GT.val g bc].toArray w0 (fun e w'=>e= .returned (aa (bZ g))/\bu ab w0 w'):=by
 refine Calls.run ab Tryz.func42 ?_
 intro ac β S
 have iy:g.prog.length<=4194304:=af.le (az.prog (d:=g) aJ)
 have iA:g.written.length<=4194304:=af.le (az.written (d:=g) aJ)
 have ix:g.live.length<=4194304:=af.le (az.live (d:=g) aJ)
 have iz:g.seen.length<=4194304:=af.le (az.seen (d:=g) aJ)
 refine S.bb 16 (.cons (aE fun w hw=>O2 w g bc (bN (S.arg aJ) hw)) .nil) (!(lK g)) (fun ac w β h1 S=>?_) (fun ac w β h1 S=>?_)
 ·have an:=cn h1
  exact S.aq 7 .nil [aa 0] (b3 tq)
 have aF:=b_ h1
 refine S.bb 8 (.cons (aE fun w hw=>Pj w g bc (bN (S.arg aJ) hw)) .nil) (nI g) (fun ac w β b2 S=>?_) (fun ac w β b2 S=>?_)
 ·exact S.aq 7 .nil [aa 1] (b3 tq)
 refine S.aI 22 (.cons (aE fun w hw=>uy w g.prog bc.prog (bN (az.prog (d:=g) (S.arg aJ)) hw) g.aw) .nil) ((bF g.prog g.aw).eF==3) (fun ac w β bl c7 S=>?_) (fun ac w β bl c7 S=>?_)
 ·exact S.aq 7 .nil [aa 3] (b3 tq)
 refine S.aI 7 .nil ((bF g.prog g.aw).eF==4) (fun ac w β cD e_ S=>?_) (fun ac w β cD e_ S=>?_)
 ·exact S.aq 7 .nil [aa 4] (b3 tq)
 refine S.aI 7 .nil ((bF g.prog g.aw).eF==5) (fun ac w β et iP S=>?_) (fun ac w β et iP S=>?_)
 ·exact S.aq 7 .nil [aa 5] (b3 tq)
 refine S.aI 7 .nil ((bF g.prog g.aw).eF==6) (fun ac w β eL h8 S=>?_) (fun ac w β eL h8 S=>?_)
 ·exact S.aq 7 .nil [aa 6] (b3 tq)
 refine S.aI 7 .nil ((bF g.prog g.aw).eF==7) (fun ac w β jD nK S=>?_) (fun ac w β jD nK S=>?_)
 ·exact S.aq 7 .nil [aa 7] (b3 tq)
 exact S.aq 10 .nil [aa 2] (b3 tq)
theorem J6 {p:Prop} (h:p:=by clear S;(unfold bm;first|(rw [if_pos (by first|exact Or.inl (by assumption)|exact Or.inr (by assumption)|omega)];done)|(rw [if_neg (by omega)];done))):p:=h
theorem OZ (w0:World) (g:ax) (bc:c6) (aJ:bT w0 g bc):Calls Tryz.prog 43 [GT.val g bc].toArray w0 (fun e w'=>e= .returned (aa (bm g))/\bu ab w0 w'):=by
 refine Calls.run ab Tryz.func43 ?_
 intro ac β S
 have iy:g.prog.length<=4194304:=af.le (az.prog (d:=g) aJ)
 have iA:g.written.length<=4194304:=af.le (az.written (d:=g) aJ)
 have ix:g.live.length<=4194304:=af.le (az.live (d:=g) aJ)
 have iz:g.seen.length<=4194304:=af.le (az.seen (d:=g) aJ)
 have hv:=tZ g
 refine S.aI 19 (.cons (aE fun w hw=>zH w g bc (bN (S.arg aJ) hw)) .nil) ((bZ g) != 3) (fun ac w β an b4 S=>?_) (fun ac w β an b4 S=>?_)
 ·refine S.aI 5 .nil ((bZ g) != 4) (fun ac w β b2 dK S=>?_) (fun ac w β b2 dK S=>?_)
  ·exact S.aq 7 .nil [aa (-1)] (b3 J6)
  exact S.aq 15 (.cons (aE fun w hw=>uy w g.prog bc.prog (bN (az.prog (d:=g) (S.arg aJ)) hw) g.aw) .nil) [aa (bF g.prog g.aw).x] (b3 J6)
 exact S.aq 20 (.cons (aE fun w hw=>uy w g.prog bc.prog (bN (az.prog (d:=g) (S.arg aJ)) hw) g.aw) .nil) [aa (bF g.prog g.aw).x] (b3 J6)
theorem S7 {p:Prop} (h:p:=by clear S;(first|(unfold cr;rw [if_pos (by omega)];done)|(unfold cr;rw [if_pos (by omega)];first|rfl|(simp;done))|(unfold cr;rw [if_neg (by omega)];done)|(unfold cr;rw [if_neg (by omega)];first|rfl|(simp;done)))):p:=h
theorem zF (w0:World) (addr:Int) (oq:a_ addr):Calls Tryz.prog 45 [aa addr].toArray w0 (fun e w'=>e= .returned (aa (cr addr))/\bu ab w0 w'):=by
 refine Calls.run ab Tryz.func45 ?_
 intro ac β S
 have JH:=oq.lo;have Jo:=oq.hi
 refine S.aI 12 .nil (decide (addr<0)) (fun ac w β h1 a8 S=>?_) (fun ac w β h1 a8 S=>?_)
 ·exact S.aq 7 .nil [aa (-1)] (b3 S7)
 exact S.aq 11 (.cons (Oe (x:=addr) (y:=4) (by decide) (VW oq (by omega))) .nil) [aa (Int.tdiv addr 4)] (b3 S7)
theorem G7 (w0:World) (write:Bool):Calls Tryz.prog 46 [B write].toArray w0 (fun e w'=>e= .returned (aa (dB write))/\bu ab w0 w'):=by
 refine Calls.run ab Tryz.func46 ?_
 intro ac β S
 refine S.bb 11 .nil write (fun ac w β h1 S=>?_) (fun ac w β h1 S=>?_)
 ·exact S.aq 7 .nil [aa 2] (b3 (by clear S;(simp [dB, *])))
 exact S.aq 9 .nil [aa 1] (b3 (by clear S;(simp [dB, *])))
theorem Tg {p:Prop} (h:p:=by clear S;(first|(unfold eO;rw [if_pos (by omega)])|(unfold eO;rw [if_neg (by omega)]))):p:=h
theorem G_ (w0:World) (t:List aQ) (bg:aC aQ) (bs:bT w0 t bg) (page:Int):Calls Tryz.prog 256 [R t.length bg.1,aa page].toArray w0 (fun e w'=>e= .returned (GT.val (eO t page) ())/\bu ab w0 w'):=by
 refine Calls.run ab Tryz.func256 ?_
 intro ac β S
 have AU:t.length<=4194304:=af.le bs
 refine S.bb 15 (.cons (aE fun w hw=>jo w page (t.length:Int) (by omega)) .nil) (!(a3 page 0 ((t.length:Int)-1))) (fun ac w β h1 S=>?_) (fun ac w β h1 S=>?_)
 ·have an:=cn h1
  have b4:=dm an
  exact S.aq 8 (.cons (aE fun w hw=>ny w) .nil) [GT.val (⟨-1,0⟩:aQ) ()] (hU (p:=()) Tg)
 have b2:=b_ h1
 have dK:=cU b2
 exact S.aq 13 (.cons (cp (S.arg bs) page Tryz.underlying64) (.cons (dy (S.arg bs) 111 page.toNat) .nil)) [GT.val (el t page.toNat) ()] (hU (p:=()) Tg)
theorem tp {p:Prop} (h:p:=by clear S;(unfold cV;(repeat' split)<;>first|rfl|(exfalso;omega)|(exfalso;simp_all;done)|(exfalso;simp_all;omega))):p:=h
theorem Pl (w0:World) (inner:List aQ) (jc:aC aQ) (k0:bT w0 inner jc) (page:Int) (need:Int):Calls Tryz.prog 149 [R inner.length jc.1,aa page,aa need].toArray w0 (fun e w'=>e= .returned (.tuple #[aa (cV inner page need).1,B (cV inner page need).2])/\bu ab w0 w'):=by
 refine Calls.run ab Tryz.func149 ?_
 intro ac β S
 have AT:inner.length<=4194304:=af.le k0
 refine S.aI 22 (.cons (aE fun w hw=>G_ w inner jc (bN (S.arg k0) hw) page) .nil) ((eO inner page).page==(-1)) (fun ac w β h1 a8 S=>?_) (fun ac w β h1 a8 S=>?_)
 ·exact S.aq 21 .nil [aa (-1),B false] (jg (h4 (show(-1)=(cV inner page need).1 from tp)) (jy (show false=(cV inner page need).2 from tp)))
 refine S.bb 7 (.cons (aE fun w hw=>xc w (eO inner page).bd need) .nil) (!(e8 (eO inner page).bd need)) (fun ac w β aF S=>?_) (fun ac w β aF S=>?_)
 ·have b2:=cn aF
  exact S.aq 14 .nil [aa (-1),B false] (jg (h4 (show(-1)=(cV inner page need).1 from tp)) (jy (show false=(cV inner page need).2 from tp)))
 have bl:=b_ aF
 have c7:=qJ bl
 refine S.bb 6 (.cons (aE fun w hw=>ha w need 1 3) .nil) (!(a3 need 1 3)) (fun ac w β cD S=>?_) (fun ac w β cD S=>?_)
 ·have db:=cn cD
  have fx:=dm db
  exact S.aq 8 .nil [aa (-1),B false] (jg (h4 (show(-1)=(cV inner page need).1 from tp)) (jy (show false=(cV inner page need).2 from tp)))
 have c3:=b_ cD
 have dY:=cU c3
 exact S.aq 12 .nil [aa (eO inner page).page,B true] (jg (h4 (show(eO inner page).page=(cV inner page need).1 from tp)) (jy (show true=(cV inner page need).2 from tp)))
theorem Kb {p:Prop} (h:p:=by clear S;(first|(unfold bO;rw [if_pos (by omega)];done)|(unfold bO;rw [if_pos (by omega)];first|rfl|(simp;done))|(unfold bO;rw [if_neg (by omega)];done)|(unfold bO;rw [if_neg (by omega)];first|rfl|(simp;done)))):p:=h
theorem Yt (w0:World) (m:Int) (g:Int):Calls Tryz.prog 191 [aa m,aa g].toArray w0 (fun e w'=>e= .returned (aa (bO m g))/\bu ab w0 w'):=by
 refine Calls.run ab Tryz.func191 ?_
 intro ac β S
 refine S.bb 12 (.cons (aE fun w hw=>jo w m 3 (by omega)) .nil) (!(a3 m 0 (3-1))) (fun ac w β h1 S=>?_) (fun ac w β h1 S=>?_)
 ·have an:=cn h1
  have b4:=dm an
  exact S.aq 13 .nil [aa 0] (b3 Kb)
 have b2:=b_ h1
 have dK:=cU b2
 refine S.bb 6 (.cons (aE fun w hw=>jo w g 2 (by omega)) .nil) (!(a3 g 0 (2-1))) (fun ac w β cR S=>?_) (fun ac w β cR S=>?_)
 ·have cD:=cn cR
  have e_:=dm cD
  exact S.aq 7 .nil [aa 0] (b3 Kb)
 have et:=b_ cR
 have iP:=cU et
 exact S.aq 14 (.cons (cg 1 g) (.cons (Od (x:=m) (y:=2) ⟨by omega,by omega⟩) (.cons (cg (1+g) (m*2)) .nil))) [aa ((1+g)+(m*2))] (b3 Kb)
theorem Ep {p:Prop} (h:p:=by clear S;(first|(rw [QY (by omega) bf];done)|(rw [QZ (k:=k) (by omega) bf (Cl (by assumption) (by assumption))];done))):p:=h
theorem Yc (w0:World) (b:List aG) (bB:aC aG) (hb:bT w0 b bB) (tag:Int) (page:Int):Calls Tryz.prog 249 [R b.length bB.1,aa tag,aa page].toArray w0 (fun e w'=>e= .returned (.tuple #[GT.val (ds b tag page).1 (),B (ds b tag page).2])/\bu ab w0 w'):=by
 refine Calls.run ab Tryz.func249 ?_
 intro ac β S
 have kD:b.length<=4194304:=af.le hb
 refine S.go 15 .nil fun ac w β S=>?_
 refine dc (fun a5 ac w=>∃(k:Nat) (u:_) (N:_) (β:_),a5=b.length-k/\(k<=b.length)/\((b.take k).find? (fun e=>h7 e tag page)=none)/\aj Tryz.prog Tryz.f249.ntmps w0 ab u N β ⟨[(1,.v (aa tag)),(2,.v (aa page)),(6,.p 0 0),(10,.v (R b.length bB.1)),(11,.v (aa (b.length:Int))),(12,.v (aa (k:Int)))],[ck aG]⟩ ac w) _ ⟨0,_,_,_,rfl,cv,(by rfl),S.z⟩ ?_
 clear S
 rintro f1 a5 fa ac w ⟨k,u,N,β,rfl,hk,bf,S⟩
 refine S.rs fun S=>?_
 refine S.aI 6 .nil (decide ((k:Int)<(b.length:Int))) (fun ac w β aF cB S=>?_) (fun ac w β aF cB S=>?_)
 ·refine S.aI 20 (.cons (b6 (S.arg hb) k Tryz.underlying29) (.cons (dy (S.arg hb) 138 k) .nil)) ((el b k).tag==tag) (fun ac w β bl c7 S=>?_) (fun ac w β bl c7 S=>?_)
  ·refine S.aI 7 .nil ((el b k).page==page) (fun ac w β cD e_ S=>?_) (fun ac w β cD e_ S=>?_)
   ·exact S.aq 9 .nil [GT.val (el b k) (),B true] (jg (congrArg (fun z=>GT.val z ()) (show(el b k)=(ds b tag page).1 from Ep)) (jy (show true=(ds b tag page).2 from Ep)))
   refine S.ge 8 (.cons (cg (k:Int) 1) .nil) f1 fun ac w β S=>fa.of (b.length-(k+1)) _ _ (by omega) ⟨k+1,_,_,_,rfl,?_,?_,S.z⟩
   ·exact cO
   ·clear S;(first|exact s8 (by omega) bf (sC (by assumption))|exact s8 (by omega) bf (wE (by assumption)))
  refine S.ge 15 (.cons (cg (k:Int) 1) .nil) f1 fun ac w β S=>fa.of (b.length-(k+1)) _ _ (by omega) ⟨k+1,_,_,_,rfl,?_,?_,S.z⟩
  ·exact cO
  ·clear S;(first|exact s8 (by omega) bf (sC (by assumption))|exact s8 (by omega) bf (wE (by assumption)))
 exact S.aq 14 (.cons (fT (s:=Instr.build 138 [].toArray) (v:= .agg [aa 0,aa 0,aa 0,aa 0].toArray) (fun w=>by kernel_rfl)) .nil) [GT.val (⟨0,0,0,0⟩:aG) (),B false] (jg (congrArg (fun z=>GT.val z ()) (show(⟨0,0,0,0⟩:aG)=(ds b tag page).1 from Ep)) (jy (show false=(ds b tag page).2 from Ep)))
theorem tm {p:Prop} (h:p:=by clear S;(unfold aV;(repeat' split)<;>first|rfl|(exfalso;omega)|(exfalso;simp_all;done)|(exfalso;simp_all;omega)|(simp_all;done))):p:=h
theorem O0 (w0:World) (k:bQ) (ej:fm) (hk:bT w0 k ej) (page:Int):Calls Tryz.prog 250 [GT.val k ej,aa page].toArray w0 (fun e w'=>e= .returned (.tuple #[GT.val (aV k page).1 (),B (aV k page).2])/\bu ab w0 w'):=by
 refine Calls.run ab Tryz.func250 ?_
 intro ac β S
 have qU:k.known.length<=4194304:=af.le (er.known (d:=k) hk)
 have qV:k.aY.length<=4194304:=af.le (er.aY (d:=k) hk)
 refine S.bb 17 (.cons (aE fun w hw=>jo w page (k.known.length:Int) (by omega)) .nil) (!(a3 page 0 ((k.known.length:Int)-1))) (fun ac w β h1 S=>?_) (fun ac w β h1 S=>?_)
 ·have an:=cn h1
  have b4:=dm an
  exact S.aq 26 (.cons (aE fun w hw=>ny w) .nil) [GT.val (⟨-1,0⟩:aQ) (),B false] (jg (congrArg (fun z=>GT.val z ()) (show(⟨-1,0⟩:aQ)=(aV k page).1 from tm)) (jy (show false=(aV k page).2 from tm)))
 have b2:=b_ h1
 have dK:=cU b2
 refine S.bb 8 (.cons (aE fun w hw=>jo w page (k.aY.length:Int) (by omega)) .nil) (!(a3 page 0 ((k.aY.length:Int)-1))) (fun ac w β cR S=>?_) (fun ac w β cR S=>?_)
 ·have cD:=cn cR
  have e_:=dm cD
  exact S.aq 18 (.cons (aE fun w hw=>ny w) .nil) [GT.val (⟨-1,0⟩:aQ) (),B false] (jg (congrArg (fun z=>GT.val z ()) (show(⟨-1,0⟩:aQ)=(aV k page).1 from tm)) (jy (show false=(aV k page).2 from tm)))
 have et:=b_ cR
 have iP:=cU et
 refine S.bb 9 (.cons (cp (er.known (d:=k) (S.arg hk)) page Tryz.underlying39) (.cons (cj (er.known (d:=k) (S.arg hk)) 4 page.toNat) .nil)) (!(el k.known page.toNat)) (fun ac w β eL S=>?_) (fun ac w β eL S=>?_)
 ·have dZ:=cn eL
  exact S.aq 9 (.cons (aE fun w hw=>ny w) .nil) [GT.val (⟨-1,0⟩:aQ) (),B false] (jg (congrArg (fun z=>GT.val z ()) (show(⟨-1,0⟩:aQ)=(aV k page).1 from tm)) (jy (show false=(aV k page).2 from tm)))
 have jD:=b_ eL
 exact S.aq 15 (.cons (cp (er.aY (d:=k) (S.arg hk)) page Tryz.underlying64) (.cons (dy (er.aY (d:=k) (S.arg hk)) 111 page.toNat) .nil)) [GT.val (el k.aY page.toNat) (),B true] (jg (congrArg (fun z=>GT.val z ()) (show(el k.aY page.toNat)=(aV k page).1 from tm)) (jy (show true=(aV k page).2 from tm)))
theorem yv {p:Prop} (h:p:=by clear S;(first|rw [L9 (by omega)]|rw [UK (he.trans (L3 (by omega)))]|rw [L_ (by omega),he,UF (by omega) (kC.trans (L5 (by omega) (by assumption)))])):p:=h
theorem Pe (w0:World) (h:ah) (ai:cb) (a1:bT w0 h ai) (page:Int):Calls Tryz.prog 329 [GT.val h ai,aa page].toArray w0 (fun e w'=>e= .returned (.tuple #[aa (dX h page).1,aa (dX h page).2])/\bu ab w0 w'):=by
 refine Calls.run ab Tryz.func329 ?_
 intro ac β S
 have m1:h.mem.length<=4194304:=af.le (bz.mem (d:=h) a1)
 have m2:h.I.length<=4194304:=af.le (bz.I (d:=h) a1)
 have mZ:h.buf.length<=4194304:=af.le (bz.buf (d:=h) a1)
 have m0:h.ag.length<=4194304:=af.le (bz.ag (d:=h) a1)
 refine S.aI 14 .nil (decide (page<0)) (fun ac w β h1 a8 S=>?_) (fun ac w β h1 a8 S=>?_)
 ·exact S.aq 8 .nil [aa (-1),aa (-1)] (jg (h4 (show(-1)=(dX h page).1 from yv)) (h4 (show(-1)=(dX h page).2 from yv)))
 refine S.go 13 .nil fun ac w β S=>?_
 refine dc (fun a5 ac w=>∃(i:Nat) (u:_) (N:_) (β:_),a5=h.I.length-i/\(i<=h.I.length)/\(ir h.I page 0=ir h.I page i)/\aj Tryz.prog Tryz.f329.ntmps w0 ab u N β ⟨[(1,.v (aa page)),(13,.v (R h.I.length ai.I.1)),(14,.v (aa (h.I.length:Int))),(15,.v (aa (i:Int)))],[GT.cells h ai]⟩ ac w) _ ⟨0,_,_,_,rfl,cv,cv,S.z⟩ ?_
 clear S
 rintro f3 a5 iw ac w ⟨i,u,N,β,rfl,hi,he,S⟩
 refine S.rs fun S=>?_
 refine S.aI 6 .nil (decide ((i:Int)<(h.I.length:Int))) (fun ac w β bl c7 S=>?_) (fun ac w β bl c7 S=>?_)
 ·have sQ:(el h.I i).outer.length<=4194304:=af.le (aU.outer (d:=(el h.I i)) (af.el (bz.I (d:=h) (S.arg a1)) i (by omega)))
  refine S.go 24 (.cons (b6 (bz.I (d:=h) (S.arg a1)) i Tryz.underlying28) (.cons (dy (bz.I (d:=h) (S.arg a1)) 74 i) .nil)) fun ac w β S=>?_
  refine dc (fun a5 ac w=>∃(k:Nat) (u:_) (N:_) (β:_),a5=(el h.I i).outer.length-k/\(k<=(el h.I i).outer.length)/\(jV (el h.I i).outer page 0=jV (el h.I i).outer page k)/\aj Tryz.prog Tryz.f329.ntmps w0 ab u N β ⟨[(1,.v (aa page)),(6,.v (aa (i:Int))),(13,.v (R h.I.length ai.I.1)),(14,.v (aa (h.I.length:Int))),(15,.v (aa (i:Int))),(21,.v (R (el h.I i).outer.length (ai.I.2 i).outer.1)),(22,.v (aa ((el h.I i).outer.length:Int))),(23,.v (aa (k:Int)))],[GT.cells h ai,GT.cells (el h.I i) (ai.I.2 i)]⟩ ac w) _ ⟨0,_,_,_,rfl,cv,cv,S.z⟩ ?_
  clear S
  rintro f8 a5 eT ac w ⟨k,u,N,β,rfl,hk,kC,S⟩
  refine S.rs fun S=>?_
  have AS:(el h.I i).outer.length<=4194304:=af.le (aU.outer (d:=el h.I i) (af.el (bz.I (d:=h) a1) i (by omega)))
  refine S.aI 6 .nil (decide ((k:Int)<((el h.I i).outer.length:Int))) (fun ac w β c3 dY S=>?_) (fun ac w β c3 dY S=>?_)
  ·refine S.aI 23 (.cons (b6 (aU.outer (d:=(el h.I i)) (af.el (bz.I (d:=h) (S.arg a1)) i (by omega))) k Tryz.underlying64) (.cons (dy (aU.outer (d:=(el h.I i)) (af.el (bz.I (d:=h) (S.arg a1)) i (by omega))) 111 k) .nil)) ((el (el h.I i).outer k).page==page) (fun ac w β dZ hA S=>?_) (fun ac w β dZ hA S=>?_)
   ·exact S.aq 10 .nil [aa (i:Int),aa (k:Int)] (jg (h4 (show(i:Int)=(dX h page).1 from yv)) (h4 (show(k:Int)=(dX h page).2 from yv)))
   refine S.ge 8 (.cons (cg (k:Int) 1) .nil) f8 fun ac w β S=>eT.of ((el h.I i).outer.length-(k+1)) _ _ (by omega) ⟨k+1,_,_,_,rfl,?_,?_,S.z⟩
   ·exact cO
   ·clear S;exact kC.trans (L6 (by omega) (by assumption))
  refine S.ge 11 (.cons (cg (i:Int) 1) .nil) f3 fun ac w β S=>iw.of (h.I.length-(i+1)) _ _ (by omega) ⟨i+1,_,_,_,rfl,?_,?_,S.z⟩
  ·exact cO
  ·clear S;exact he.trans (UG (by omega) (kC.trans (L4 (by omega))))
 exact S.aq 13 .nil [aa (-1),aa (-1)] (jg (h4 (show(-1)=(dX h page).1 from yv)) (h4 (show(-1)=(dX h page).2 from yv)))
theorem O7 (w0:World) (h:ah) (ai:cb) (a1:bT w0 h ai):Calls Tryz.prog 294 [GT.val h ai].toArray w0 (dw ab w0 (eg h:List Int)):=by
 refine Calls.run ab Tryz.func294 ?_
 intro ac β S
 have m1:h.mem.length<=4194304:=af.le (bz.mem (d:=h) a1)
 have m2:h.I.length<=4194304:=af.le (bz.I (d:=h) a1)
 have mZ:h.buf.length<=4194304:=af.le (bz.buf (d:=h) a1)
 have m0:h.ag.length<=4194304:=af.le (bz.ag (d:=h) a1)
 refine S.go 8 .nil fun ac w β S=>S.gR (α:=Int) (d:=7) fun ac w N ae br S up aD d4=>?_
 clear up d4
 refine S.go 13 .nil fun ac w β S=>?_
 refine dc (fun a5 ac w=>∃(k:Nat) (acc:List Int) (bL:_) (cW:_) (u:_) (N:_) (β:_),a5=h.mem.length-k/\(k<=h.mem.length)/\(acc=lL k (fun p=>decide ((dX h p).1<0)))/\aj Tryz.prog Tryz.f294.ntmps w0 ab u N β ⟨[(1,.p 0 0),(3,.v (R acc.length bL.1)),(10,.v (aa (h.mem.length:Int))),(11,.v (aa (k:Int)))],[GT.cells h ai]⟩ ac w/\ad w0 ab u N cW acc bL) _ ⟨0,([]:List Int),ae,br,_,_,_,rfl,cv,(by rfl),S.z,aD⟩ ?_
 clear S aD
 rintro f8 a5 eT ac w ⟨k,acc,bL,cW,u,N,β,rfl,hk,bt,S,ao⟩
 refine S.rs fun S=>?_
 have gD:acc.length<=k:=by rw [bt];exact yu _ _
 refine S.aI 6 .nil (decide ((k:Int)<(h.mem.length:Int))) (fun ac w β c3 dY S=>?_) (fun ac w β c3 dY S=>?_)
 ·refine S.aI 29 (.cons (aE fun w hw=>Pe w h ai (bN (S.arg a1) hw) (k:Int)) .nil) (decide ((dX h (k:Int)).1<0)) (fun ac w β dZ hA S=>?_) (fun ac w β dZ hA S=>?_)
  ·refine S.go 4 .nil fun ac w β S=>S.iL (α:=Int) (x:=(k:Int)) (p:=()) (F:=ab) ⟨by omega,by omega⟩ (fun b h=>False.elim h) (fun b h=>False.elim h) (d:=24) fun ac w N nW pK S up gE d17=>?_
   replace ao:=ao.up up
   clear up d17
   refine S.k7 (α:=Int) ao gE.ak (fun _ _ h=>h) (by':=8) (d:=25) (lx:=acc.length) (ly:=1) rfl rfl (show _<=4194304 by simp only [List.length_append,List.length_cons,List.length_nil];omega) fun ac w N dg hq S up fU d22=>?_
   clear up d22
   refine S.ge 8 (.cons (cg (k:Int) 1) .nil) f8 fun ac w β S=>eT.of (h.mem.length-(k+1)) _ _ (by omega) ⟨k+1,(acc++[(k:Int)]),dg,hq,_,_,_,rfl,?_,?_,S.z,fU⟩
   ·exact cO
   ·clear S;(first|(rw [mq (by first|assumption|(simp [*];done)|(simp;omega)),bt];done)|(rw [mo (by first|assumption|(simp [*];done)|(simp;omega)),bt];done)|(rw [mq (by simp_all<;>fail),bt];done)|(rw [mo (by simp_all<;>fail),bt];done))
  refine S.ge 8 (.cons (cg (k:Int) 1) .nil) f8 fun ac w β S=>eT.of (h.mem.length-(k+1)) _ _ (by omega) ⟨k+1,acc,bL,cW,_,_,_,rfl,?_,?_,S.z,ao⟩
  ·exact cO
  ·clear S;(first|(rw [mq (by first|assumption|(simp [*];done)|(simp;omega)),bt];done)|(rw [mo (by first|assumption|(simp [*];done)|(simp;omega)),bt];done)|(rw [mq (by simp_all<;>fail),bt];done)|(rw [mo (by simp_all<;>fail),bt];done))
 refine S.bq 13 .nil [R acc.length bL.1] fun ac w β S=>?_
 exact cx S (show eg h=acc by clear S;(unfold eg;rw [bt,show h.mem.length=k by omega])) rfl ao
theorem Tc {p:Prop} (h:p:=by clear S;(first|(unfold hg;rw [if_pos (by omega)];done)|(unfold hg;rw [if_pos (by omega)];first|rfl|(simp;done))|(unfold hg;rw [if_neg (by omega)];done)|(unfold hg;rw [if_neg (by omega)];first|rfl|(simp;done)))):p:=h
theorem G8 (w0:World) (m:List (List Int)) (pm:aC (List Int)) (hm:bT w0 m pm) (page:Int):Calls Tryz.prog 257 [R m.length pm.1,aa page].toArray w0 (dw ab w0 (hg m page:List Int)):=by
 refine Calls.run ab Tryz.func257 ?_
 intro ac β S
 have qW:m.length<=4194304:=af.le hm
 refine S.bb 15 (.cons (aE fun w hw=>jo w page (m.length:Int) (by omega)) .nil) (!(a3 page 0 ((m.length:Int)-1))) (fun ac w β h1 S=>?_) (fun ac w β h1 S=>?_)
 ·have an:=cn h1
  have b4:=dm an
  refine S.go 3 .nil fun ac w β S=>S.mG (α:=Int) (m:=4) (by':=8) (d:=10) (by omega) (show 4<=4194304 by omega) fun ac w N oL dO S up bJ d7=>?_
  clear up d7
  refine S.bq 4 .nil [R 4 oL.1] fun ac w β S=>?_
  exact cx S (show hg m page=(List.replicate 4 (GT.eK:Int)) from Tc) (by rw [show 4=(List.replicate 4 (GT.eK:Int)).length from(by simp)];rfl) bJ
 have db:=b_ h1
 have fx:=cU db
 refine S.go 9 (.cons (cp (S.arg hm) page Tryz.underlying22) (.cons (cj (S.arg hm) 38 page.toNat) .nil)) fun ac w β S=>S.cN (r:=(el m page.toNat)) (d:=15) (xe w (el m page.toNat) (pm.2 page.toNat) (S.rd (af.el (S.arg hm) page.toNat (by omega)))) fun ac w N fY e3 S up bG d13=>?_
 clear up d13
 refine S.bq 4 .nil [R (el m page.toNat).length fY.1] fun ac w β S=>?_
 exact cx S (show hg m page=(el m page.toNat) from Tc) rfl bG
theorem Yv (w0:World) (t:List aQ) (bg:aC aQ) (bs:bT w0 t bg) (page:Int):Calls Tryz.prog 330 [R t.length bg.1,aa page].toArray w0 (dw ab w0 (gv t page:List Int)):=by
 refine Calls.run ab Tryz.func330 ?_
 intro ac β S
 have AU:t.length<=4194304:=af.le bs
 refine S.go 7 .nil fun ac w β S=>S.gR (α:=Int) (d:=8) fun ac w N ae br S up aD d4=>?_
 clear up d4
 refine S.go 12 .nil fun ac w β S=>?_
 refine dc (fun a5 ac w=>∃(k:Nat) (acc:List Int) (bL:_) (cW:_) (u:_) (N:_) (β:_),a5=t.length-k/\(k<=t.length)/\(acc=lL k (fun i=>decide ((el t i).page=page)))/\aj Tryz.prog Tryz.f330.ntmps w0 ab u N β ⟨[(1,.v (aa page)),(5,.v (R acc.length bL.1)),(9,.v (R t.length bg.1)),(10,.v (aa (t.length:Int))),(11,.v (aa (k:Int)))],[]⟩ ac w/\ad w0 ab u N cW acc bL) _ ⟨0,([]:List Int),ae,br,_,_,_,rfl,cv,(by rfl),S.z,aD⟩ ?_
 clear S aD
 rintro f8 a5 eT ac w ⟨k,acc,bL,cW,u,N,β,rfl,hk,bt,S,ao⟩
 refine S.rs fun S=>?_
 have gD:acc.length<=k:=by rw [bt];exact yu _ _
 refine S.aI 6 .nil (decide ((k:Int)<(t.length:Int))) (fun ac w β c3 dY S=>?_) (fun ac w β c3 dY S=>?_)
 ·refine S.aI 23 (.cons (b6 (S.arg bs) k Tryz.underlying64) (.cons (dy (S.arg bs) 111 k) .nil)) ((el t k).page==page) (fun ac w β dZ hA S=>?_) (fun ac w β dZ hA S=>?_)
  ·refine S.go 4 .nil fun ac w β S=>S.iL (α:=Int) (x:=(k:Int)) (p:=()) (F:=ab) ⟨by omega,by omega⟩ (fun b h=>False.elim h) (fun b h=>False.elim h) (d:=22) fun ac w N nW pK S up gE d17=>?_
   replace ao:=ao.up up
   clear up d17
   refine S.k7 (α:=Int) ao gE.ak (fun _ _ h=>h) (by':=8) (d:=23) (lx:=acc.length) (ly:=1) rfl rfl (show _<=4194304 by simp only [List.length_append,List.length_cons,List.length_nil];omega) fun ac w N dg hq S up fU d22=>?_
   clear up d22
   refine S.ge 8 (.cons (cg (k:Int) 1) .nil) f8 fun ac w β S=>eT.of (t.length-(k+1)) _ _ (by omega) ⟨k+1,(acc++[(k:Int)]),dg,hq,_,_,_,rfl,?_,?_,S.z,fU⟩
   ·exact cO
   ·clear S;(first|(rw [mq (by first|assumption|(simp [*];done)|(simp;omega)),bt];done)|(rw [mo (by first|assumption|(simp [*];done)|(simp;omega)),bt];done)|(rw [mq (by simp_all<;>fail),bt];done)|(rw [mo (by simp_all<;>fail),bt];done))
  refine S.ge 8 (.cons (cg (k:Int) 1) .nil) f8 fun ac w β S=>eT.of (t.length-(k+1)) _ _ (by omega) ⟨k+1,acc,bL,cW,_,_,_,rfl,?_,?_,S.z,ao⟩
  ·exact cO
  ·clear S;(first|(rw [mq (by first|assumption|(simp [*];done)|(simp;omega)),bt];done)|(rw [mo (by first|assumption|(simp [*];done)|(simp;omega)),bt];done)|(rw [mq (by simp_all<;>fail),bt];done)|(rw [mo (by simp_all<;>fail),bt];done))
 refine S.bq 13 .nil [R acc.length bL.1] fun ac w β S=>?_
 exact cx S (show gv t page=acc by clear S;(unfold gv;rw [bt,show t.length=k by omega])) rfl ao
theorem J_ {p:Prop} (h:p:=by clear S;(unfold j6;(repeat' split)<;>first|rfl|(exfalso;omega)|(exfalso;simp_all;done))):p:=h
theorem Yf (w0:World) (k:bQ) (ej:fm) (hk:bT w0 k ej) (page:Int):Calls Tryz.prog 189 [GT.val k ej,aa page].toArray w0 (dw ab w0 (j6 k page:bQ)):=by
 refine Calls.run ab Tryz.func189 ?_
 intro ac β S
 have qU:k.known.length<=4194304:=af.le (er.known (d:=k) hk)
 have qV:k.aY.length<=4194304:=af.le (er.aY (d:=k) hk)
 refine S.go 9 .nil fun ac w β S=>S.cN (r:=k) (d:=7) (C8 w k ej (S.rd (S.arg hk))) fun ac w N ae br S up aD d4=>?_
 clear up d4
 obtain⟨dO,eX,bJ,bE,_,_,d11⟩:=tV aD
 refine S.bb 13 (.cons (aE fun w hw=>jo w page (k.known.length:Int) (by omega)) .nil) (a3 page 0 ((k.known.length:Int)-1)) (fun ac w β dZ S=>?_) (fun ac w β dZ S=>?_)
 ·have hA:=cU dZ
  refine S.bb 8 (.cons (aE fun w hw=>jo w page (k.aY.length:Int) (by omega)) .nil) (a3 page 0 ((k.aY.length:Int)-1)) (fun ac w β h9 S=>?_) (fun ac w β h9 S=>?_)
  ·have lM:=cU h9
   refine S.go 7 (.cons (cp bJ.ak page Tryz.underlying39) .nil) fun ac w β S=>S.fM (α:=Bool) bJ (t:=4) (k:=page.toNat) (j:=0) (off:=ae.known.1.off+page.toNat*1) (v:=B false) (y:=false) (q:=()) (fun _ _ _=>⟨ab,trivial,fun _ h=>False.elim h⟩) fun w N cC jZ S up gE d19 ajp K_=>?_
   have d22:=d19 _ (J.symm d11) (fun b _ h=>False.elim h) bE.sub
   replace bE:=bE.bw (J.symm d11) up
   clear up d19 bJ K_
   have Bc:(k.known.set page.toNat false).length=k.known.length:=List.length_set
   replace S:=S.z (σ':=⟨[(1,.v (aa page)),(4,.p 1 0),(5,.p 2 0),(23,.v (bg ae.known.1.b (ae.known.1.off+page.toNat*1)))],[GT.cells k ej,ck bQ,[R k.known.length ae.known.1,R k.aY.length ae.aY.1]]⟩)
   replace S:=S.cast (σ':=⟨[(1,.v (aa page)),(4,.p 1 0),(5,.p 2 0),(23,.v (bg ae.known.1.b (ae.known.1.off+page.toNat*1)))],[GT.cells k ej,ck bQ,[R (k.known.set page.toNat false).length ae.known.1,R k.aY.length ae.aY.1]]⟩) (by rw [show(k.known.set page.toNat false).length=k.known.length by omega])
   refine S.is fun S=>?_
   refine S.go 2 .nil fun ac w β S=>?_
   refine dI ?_
   refine S.dP (f:=6) 5 (by kernel_rfl) (by kernel_rfl) fun w S=>?_
   refine S.hm 3 [0,1,2] [] [(25,.v (R k.aY.length ae.aY.1)),(26,.v (aa page))] .nil fun ac S=>?_
   refine S.iI 3 [] [(27,.v (GT.val (⟨-1,0⟩:aQ) ()))] 3 [] (.cons (aE fun w hw=>ny w) .nil) fun ac w β S=>?_
   refine S.a9 4 [4] [] [(28,.v (bg ae.aY.1.b (ae.aY.1.off+page.toNat*2)))] (.cons (cp bE.ak page Tryz.underlying64) .nil) fun ac S=>?_
   refine ar.one (i:=5) (by kernel_rfl) ?_
   have aaL:ea (el k.aY page.toNat):=(af.el bE.ak page.toNat (by omega))
   refine id (S.y1 (α:=aQ) bE (t:=111) (k:=page.toNat) (j:=0) (off:=ae.aY.1.off+page.toNat*2) (v:=GT.val (⟨-1,0⟩:aQ) ()) (y:=(⟨-1,0⟩:aQ)) (q:=()) (fun _ _ _=>⟨ab,(show ea ⟨-1,0⟩ from⟨⟨by decide,by decide⟩,⟨by decide,by decide⟩⟩),fun _ h=>False.elim h⟩) fun w N kS eZ S up dC d28 Nf Bg=>?_)
   refine ar.last (by kernel_rfl) ?_
   have d31:=d28 _ (J.symm d22) (fun b _ h=>False.elim h) gE.sub
   replace gE:=gE.bw (J.symm d22) up
   clear up d28 bE Bg
   have KP:(k.aY.set page.toNat (⟨-1,0⟩:aQ)).length=k.aY.length:=List.length_set
   replace S:=S.z (σ':=⟨[(4,.p 1 0),(5,.p 2 0),(27,.v (GT.val (⟨-1,0⟩:aQ) ())),(28,.v (bg ae.aY.1.b (ae.aY.1.off+page.toNat*2)))],[GT.cells k ej,ck bQ,[R (k.known.set page.toNat false).length ae.known.1,R k.aY.length ae.aY.1]]⟩)
   replace S:=S.cast (σ':=⟨[(4,.p 1 0),(5,.p 2 0),(27,.v (GT.val (⟨-1,0⟩:aQ) ())),(28,.v (bg ae.aY.1.b (ae.aY.1.off+page.toNat*2)))],[GT.cells k ej,ck bQ,[R (k.known.set page.toNat false).length ae.known.1,R (k.aY.set page.toNat (⟨-1,0⟩:aQ)).length ae.aY.1]]⟩) (by rw [show(k.aY.set page.toNat (⟨-1,0⟩:aQ)).length=k.aY.length by omega])
   refine ar.done (by kernel_rfl) ?_ _
   refine S.ex fun S=>?_
   refine S.bq 8 .nil [GT.val (⟨(k.known.set page.toNat false),(k.aY.set page.toNat (⟨-1,0⟩:aQ))⟩:bQ) (⟨(ae.known.1,jZ),(ae.aY.1,eZ)⟩:fm)] fun ac w β S=>?_
   have gw:=l4 (x:=(⟨(k.known.set page.toNat false),(k.aY.set page.toNat (⟨-1,0⟩:aQ))⟩:bQ)) (p:=(⟨(ae.known.1,jZ),(ae.aY.1,eZ)⟩:fm)) gE dC d31
   exact cx S (show j6 k page=(⟨(k.known.set page.toNat false),(k.aY.set page.toNat (⟨-1,0⟩:aQ))⟩:bQ) from J_) rfl gw
  have rV:=dm h9
  refine S.bq 10 .nil [GT.val k ae] fun ac w β S=>?_
  have By:=l4 (x:=k) (p:=ae) bJ bE d11
  exact cx S (show j6 k page=k from J_) rfl By
 have pd:=dm dZ
 refine S.bq 18 .nil [GT.val k ae] fun ac w β S=>?_
 have iE:=l4 (x:=k) (p:=ae) bJ bE d11
 exact cx S (show j6 k page=k from J_) rfl iE
theorem Yg (w0:World) (k:bQ) (ej:fm) (hk:bT w0 k ej) (inner:List aQ) (jc:aC aQ) (k0:bT w0 inner jc) (page:Int):Calls Tryz.prog 297 [GT.val k ej,R inner.length jc.1,aa page].toArray w0 (dw ab w0 (nD k inner page:bQ)):=by
 refine Calls.run ab Tryz.func297 ?_
 intro ac β S
 have qU:k.known.length<=4194304:=af.le (er.known (d:=k) hk)
 have qV:k.aY.length<=4194304:=af.le (er.aY (d:=k) hk)
 have AT:inner.length<=4194304:=af.le k0
 refine S.go 9 .nil fun ac w β S=>S.cN (r:=k) (d:=11) (C8 w k ej (S.rd (S.arg hk))) fun ac w N ae br S up aD d4=>?_
 clear up d4
 obtain⟨dO,eX,bJ,bE,_,_,d11⟩:=tV aD
 refine S.go 9 .nil fun ac w β S=>S.cN (r:=gv inner page) (d:=14) (Yv w inner jc (S.rd (S.arg k0)) page) fun ac w N jK gb S up c4 d15=>?_
 have d16:=J.w d15 bJ.sub
 have d17:=J.w d15 bE.sub
 replace bJ:=bJ.up up
 replace bE:=bE.up up
 clear up d15
 refine S.go 5 .nil fun ac w β S=>?_
 refine dc (fun a5 ac w=>∃(i:Nat) (iB:List Bool) (c9:List aQ) (jZ:_) (ko:_) (dd:_) (fD:_) (u:_) (N:_) (β:_),a5=(gv inner page).length-i/\(i<=(gv inner page).length)/\((⟨iB,c9⟩:bQ)=((gv inner page).take i).foldl j6 k)/\aj Tryz.prog Tryz.f297.ntmps w0 ab u N β ⟨[(6,.p 1 0),(7,.p 2 0),(14,.v (R (gv inner page).length jK.1)),(15,.v (aa ((gv inner page).length:Int))),(16,.v (aa (i:Int)))],[GT.cells k ej,ck bQ,[R iB.length jZ.1,R c9.length dd.1]]⟩ ac w/\ad w0 ab u N ko iB jZ/\ad w0 ab u N fD c9 dd/\ad w0 ab u N gb (gv inner page) jK/\J ko fD/\J ko gb/\J fD gb) _ ⟨0,k.known,k.aY,ae.known,dO,ae.aY,eX,_,_,_,rfl,cv,(by rfl),S.z,bJ,bE,c4,d11,d16,d17⟩ ?_
 clear S c4 bJ bE
 rintro f27 a5 AM ac w ⟨i,iB,c9,jZ,ko,dd,fD,u,N,β,rfl,hi,bf,S,fz,ba,c4,d24,d25,d26⟩
 refine S.rs fun S=>?_
 have aeX:(gv inner page).length<=inner.length:=yu _ _
 refine S.aI 6 .nil (decide ((i:Int)<((gv inner page).length:Int))) (fun ac w β i_ nL S=>?_) (fun ac w β i_ nL S=>?_)
 ·refine S.go 15 (.cons (b6 c4.ak i Tryz.underlying38) (.cons (cj c4.ak 3 i) .nil)) fun ac w β S=>S.cN (r:=j6 (⟨iB,c9⟩:bQ) (el (gv inner page) i)) (d:=22) (Yf w (⟨iB,c9⟩:bQ) (⟨jZ,dd⟩:fm) (S.rd (show GT.rd b7 _ _ (⟨iB,c9⟩:bQ) (⟨jZ,dd⟩:fm) from⟨fz.ak,ba.ak⟩)) (el (gv inner page) i)) fun ac w N kN mF S up gw d34=>?_
  have d37:=J.w d34 c4.sub
  replace fz:=fz.up up
  replace ba:=ba.up up
  replace c4:=c4.up up
  clear up d34
  obtain⟨k8,n3,wb,kd,FK,Ni,d44⟩:=tV gw
  refine S.ge 8 (.cons (cg (i:Int) 1) .nil) f27 fun ac w β S=>AM.of ((gv inner page).length-(i+1)) _ _ (by omega) ⟨i+1,(j6 (⟨iB,c9⟩:bQ) (el (gv inner page) i)).known,(j6 (⟨iB,c9⟩:bQ) (el (gv inner page) i)).aY,kN.known,k8,kN.aY,n3,_,_,_,rfl,?_,?_,S.z,wb,kd,c4,d44,(J.part (J.symm d37) FK),(J.part (J.symm d37) Ni)⟩
  ·exact cO
  ·clear S;(rw [ta (by omega),←bf])
 refine S.bq 13 .nil [GT.val (⟨iB,c9⟩:bQ) (⟨jZ,dd⟩:fm)] fun ac w β S=>?_
 have ey:=l4 (x:=(⟨iB,c9⟩:bQ)) (p:=(⟨jZ,dd⟩:fm)) fz ba d24
 exact cx S (show nD k inner page=(⟨iB,c9⟩:bQ) by clear S;(unfold nD;rw [Q8 (by omega)] at bf;exact bf.symm)) rfl ey
theorem Yd (w0:World) (s0:aG) (host:Int) (rl:aC Int) (qT:bT w0 [host] rl):Calls Tryz.prog 331 [GT.val s0 (),bg rl.1.b (rl.1.off+0*1)].toArray w0 (fun e w'=>e= .returned (B (nG s0 host))/\bu ab w0 w'):=by
 refine Calls.run ab Tryz.func331 ?_
 intro ac β S
 exact S.aq 16 (.cons (CR (S.arg qT) (t:=3) (k:=0) (Nat.succ_pos 0) rfl (by kernel_rfl)) .nil) [B (s0.host==host)] (a6 (by clear S;rfl))
theorem Ye (w0:World) (s0:aG) (tag:Int) (rn:aC Int) (qY:bT w0 [tag] rn) (page:Int) (rm:aC Int) (hE:bT w0 [page] rm):Calls Tryz.prog 285 [GT.val s0 (),bg rn.1.b (rn.1.off+0*1),bg rm.1.b (rm.1.off+0*1)].toArray w0 (fun e w'=>e= .returned (B (h7 s0 tag page))/\bu ab w0 w'):=by
 refine Calls.run ab Tryz.func285 ?_
 intro ac β S
 refine S.aI 13 (.cons (CR (S.arg qY) (t:=3) (k:=0) (Nat.succ_pos 0) rfl (by kernel_rfl)) .nil) (s0.tag==tag) (fun ac w β h1 a8 S=>?_) (fun ac w β h1 a8 S=>?_)
 ·exact S.aq 9 (.cons (CR (S.arg hE) (t:=3) (k:=0) (Nat.succ_pos 0) rfl (by kernel_rfl)) .nil) [B (s0.page==page)] (a6 (by clear S;(first|(rw [sC (by assumption)];done)|(unfold h7;simp [*];done))))
 exact S.aq 9 .nil [B false] (a6 (by clear S;(first|(rw [sC (by assumption)];done)|(unfold h7;simp [*];done))))
theorem YE (w0:World) (b:List aG) (bB:aC aG) (hb:bT w0 b bB) (host:Int) (rl:aC Int) (qT:bT w0 [host] rl):Calls Tryz.prog 284 [R b.length bB.1,.func (.func 331) #[] #[bg rl.1.b (rl.1.off+0*1)]].toArray w0 (dw ab w0 (jB b (fun e=>nG e host):List aG)):=by
 refine Calls.run ab Tryz.func284 ?_
 intro ac β S
 have kD:b.length<=4194304:=af.le hb
 refine S.go 7 .nil fun ac w β S=>S.gR (α:=aG) (d:=8) fun ac w N ae br S up aD d4=>?_
 clear up d4
 refine S.go 12 .nil fun ac w β S=>?_
 refine dc (fun a5 ac w=>∃(k:Nat) (acc:List aG) (bL:_) (cW:_) (u:_) (N:_) (β:_),a5=b.length-k/\(k<=b.length)/\(acc=jB (b.take k) (fun e=>nG e host))/\aj Tryz.prog Tryz.f284.ntmps w0 ab u N β ⟨[(1,.v (.func (.func 331) #[] #[bg rl.1.b (rl.1.off+0*1)])),(5,.v (R acc.length bL.1)),(9,.v (R b.length bB.1)),(10,.v (aa (b.length:Int))),(11,.v (aa (k:Int)))],[]⟩ ac w/\ad w0 ab u N cW acc bL) _ ⟨0,([]:List aG),ae,br,_,_,_,rfl,cv,(by rfl),S.z,aD⟩ ?_
 clear S aD
 rintro f8 a5 eT ac w ⟨k,acc,bL,cW,u,N,β,rfl,hk,bt,S,ao⟩
 refine S.rs fun S=>?_
 have gD:acc.length<=k:=by rw [bt];exact Nat.le_trans (wK _ _) (List.length_take_le _ _)
 refine S.aI 6 .nil (decide ((k:Int)<(b.length:Int))) (fun ac w β c3 dY S=>?_) (fun ac w β c3 dY S=>?_)
 ·refine S.bb 21 (.cons (b6 (S.arg hb) k Tryz.underlying29) (.cons (dy (S.arg hb) 138 k) (.cons (aE fun w hw=>Yd w (el b k) host rl (bN (S.arg qT) hw)) .nil))) (!(nG (el b k) host)) (fun ac w β dZ S=>?_) (fun ac w β dZ S=>?_)
  ·have jD:=cn dZ
   refine S.go 4 .nil fun ac w β S=>S.iL (α:=aG) (x:=(el b k)) (p:=()) (F:=ab) (af.el (S.arg hb) k (by omega)) (fun b h=>False.elim h) (fun b h=>False.elim h) (d:=21) fun ac w N nW pK S up gE d17=>?_
   replace ao:=ao.up up
   clear up d17
   refine S.k7 (α:=aG) ao gE.ak (fun _ _ h=>h) (by':=32) (d:=22) (lx:=acc.length) (ly:=1) rfl rfl (show _<=4194304 by simp only [List.length_append,List.length_cons,List.length_nil];omega) fun ac w N dg hq S up fU d22=>?_
   clear up d22
   refine S.ge 8 (.cons (cg (k:Int) 1) .nil) f8 fun ac w β S=>eT.of (b.length-(k+1)) _ _ (by omega) ⟨k+1,(acc++[(el b k)]),dg,hq,_,_,_,rfl,?_,?_,S.z,fU⟩
   ·exact cO
   ·clear S;(first|(rw [sJ (by omega) (by assumption),bt];done)|(rw [pJ (by omega) (by assumption),bt];done))
  have gM:=b_ dZ
  refine S.ge 8 (.cons (cg (k:Int) 1) .nil) f8 fun ac w β S=>eT.of (b.length-(k+1)) _ _ (by omega) ⟨k+1,acc,bL,cW,_,_,_,rfl,?_,?_,S.z,ao⟩
  ·exact cO
  ·clear S;(first|(rw [sJ (by omega) (by assumption),bt];done)|(rw [pJ (by omega) (by assumption),bt];done))
 refine S.bq 13 .nil [R acc.length bL.1] fun ac w β S=>?_
 exact cx S (show jB b (fun e=>nG e host)=acc by clear S;(rw [bt,fb (by omega)])) rfl ao
theorem YF (w0:World) (b:List aG) (bB:aC aG) (hb:bT w0 b bB) (tag:Int) (rn:aC Int) (qY:bT w0 [tag] rn) (page:Int) (rm:aC Int) (hE:bT w0 [page] rm):Calls Tryz.prog 284 [R b.length bB.1,.func (.func 285) #[] #[bg rn.1.b (rn.1.off+0*1),bg rm.1.b (rm.1.off+0*1)]].toArray w0 (dw ab w0 (jB b (fun e=>h7 e tag page):List aG)):=by
 refine Calls.run ab Tryz.func284 ?_
 intro ac β S
 have kD:b.length<=4194304:=af.le hb
 refine S.go 7 .nil fun ac w β S=>S.gR (α:=aG) (d:=8) fun ac w N ae br S up aD d4=>?_
 clear up d4
 refine S.go 12 .nil fun ac w β S=>?_
 refine dc (fun a5 ac w=>∃(k:Nat) (acc:List aG) (bL:_) (cW:_) (u:_) (N:_) (β:_),a5=b.length-k/\(k<=b.length)/\(acc=jB (b.take k) (fun e=>h7 e tag page))/\aj Tryz.prog Tryz.f284.ntmps w0 ab u N β ⟨[(1,.v (.func (.func 285) #[] #[bg rn.1.b (rn.1.off+0*1),bg rm.1.b (rm.1.off+0*1)])),(5,.v (R acc.length bL.1)),(9,.v (R b.length bB.1)),(10,.v (aa (b.length:Int))),(11,.v (aa (k:Int)))],[]⟩ ac w/\ad w0 ab u N cW acc bL) _ ⟨0,([]:List aG),ae,br,_,_,_,rfl,cv,(by rfl),S.z,aD⟩ ?_
 clear S aD
 rintro f8 a5 eT ac w ⟨k,acc,bL,cW,u,N,β,rfl,hk,bt,S,ao⟩
 refine S.rs fun S=>?_
 have gD:acc.length<=k:=by rw [bt];exact Nat.le_trans (wK _ _) (List.length_take_le _ _)
 refine S.aI 6 .nil (decide ((k:Int)<(b.length:Int))) (fun ac w β c3 dY S=>?_) (fun ac w β c3 dY S=>?_)
 ·refine S.bb 21 (.cons (b6 (S.arg hb) k Tryz.underlying29) (.cons (dy (S.arg hb) 138 k) (.cons (aE fun w hw=>Ye w (el b k) tag rn (bN (S.arg qY) hw) page rm (bN (S.arg hE) hw)) .nil))) (!(h7 (el b k) tag page)) (fun ac w β dZ S=>?_) (fun ac w β dZ S=>?_)
  ·have jD:=cn dZ
   refine S.go 4 .nil fun ac w β S=>S.iL (α:=aG) (x:=(el b k)) (p:=()) (F:=ab) (af.el (S.arg hb) k (by omega)) (fun b h=>False.elim h) (fun b h=>False.elim h) (d:=21) fun ac w N nW pK S up gE d17=>?_
   replace ao:=ao.up up
   clear up d17
   refine S.k7 (α:=aG) ao gE.ak (fun _ _ h=>h) (by':=32) (d:=22) (lx:=acc.length) (ly:=1) rfl rfl (show _<=4194304 by simp only [List.length_append,List.length_cons,List.length_nil];omega) fun ac w N dg hq S up fU d22=>?_
   clear up d22
   refine S.ge 8 (.cons (cg (k:Int) 1) .nil) f8 fun ac w β S=>eT.of (b.length-(k+1)) _ _ (by omega) ⟨k+1,(acc++[(el b k)]),dg,hq,_,_,_,rfl,?_,?_,S.z,fU⟩
   ·exact cO
   ·clear S;(first|(rw [sJ (by omega) (by assumption),bt];done)|(rw [pJ (by omega) (by assumption),bt];done))
  have gM:=b_ dZ
  refine S.ge 8 (.cons (cg (k:Int) 1) .nil) f8 fun ac w β S=>eT.of (b.length-(k+1)) _ _ (by omega) ⟨k+1,acc,bL,cW,_,_,_,rfl,?_,?_,S.z,ao⟩
  ·exact cO
  ·clear S;(first|(rw [sJ (by omega) (by assumption),bt];done)|(rw [pJ (by omega) (by assumption),bt];done))
 refine S.bq 13 .nil [R acc.length bL.1] fun ac w β S=>?_
 exact cx S (show jB b (fun e=>h7 e tag page)=acc by clear S;(rw [bt,fb (by omega)])) rfl ao
theorem O5 (w0:World) (b:List aG) (bB:aC aG) (hb:bT w0 b bB) (host:Int) (qT:a_ host):Calls Tryz.prog 298 [R b.length bB.1,aa host].toArray w0 (dw ab w0 (g3 b host:List aG)):=by
 refine Calls.run ab Tryz.func298 ?_
 intro ac β S
 have kD:b.length<=4194304:=af.le hb
 have aew:=qT.lo;have aec:=qT.hi
 refine S.go 7 .nil fun ac w β S=>?_
 refine S.GR 0 host () qT fun β N hv br S up aD d4=>?_
 clear up d4
 refine S.go 3 .nil fun ac w β S=>S.cN (r:=jB b (fun e=>nG e host)) (d:=7) (YE w b bB (S.rd (S.arg hb)) host (dA hv ():aC Int) (S.rd aD.ak)) fun ac w N bL cW S up ao d8=>?_
 clear up d8
 refine S.bq 4 .nil [R (jB b (fun e=>nG e host)).length bL.1] fun ac w β S=>?_
 exact cx S (show g3 b host=(jB b (fun e=>nG e host)) by clear S;rfl) rfl ao
end Go.Proofs.YtjlocpdfcanlhaaGreat
