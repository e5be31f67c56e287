/- The walks: what each function that the laws reach computes (part 3). -/
import Derived.Test.YtjlocpdfcanlhaaGreatA6
import Derived.Test.YtjlocpdfcanlhaaGreatProg
import Derived.KernelRfl
namespace Go.Proofs.YtjlocpdfcanlhaaGreat
open Go
set_option linter.unusedVariables false
set_option linter.unusedSimpArgs false
set_option maxRecDepth 100000
set_option maxHeartbeats 2000000
theorem aau (w0:World) (h:ah) (ai:b_) (F:au) (aX:GT.own b6 F w0 h ai) (eT:∀b,F b->b<w0.heap.size) (m:Int) (g:Int) (want:Int) (fC:(0<=m/\m<h.I.length)/\0<=g/\g<(el h.I m.toNat).U.length) (gU:want=5\/want=6\/want=7):Calls Tryz.prog 34 [GT.val h ai,aa m,aa g,GT.val (el (el h.I m.toNat).U g.toNat) ((ai.I.2 m.toNat).U.2 g.toNat),aa want].toArray w0 (uN F F w0 (tn h m (ju (el h.I m.toNat) g (el (el h.I m.toNat).U g.toNat) want):ah)):=by
 refine Calls.run F Tryz.func34 ?_
 intro ac β S
 have eg:ad w0 F w0 (fc w0.heap.size) F h ai:=⟨aX,eT,fun b hb=> .inr hb⟩
 obtain⟨cd,fg,fa,dY,bK,bX,bO,bq,_,_,_,_,d13,d14,d15,d16,d17,d18⟩:=jR eg
 have Bk:a_ (el h.I m.toNat).owned:=aU.owned (d:=el h.I m.toNat) (ae.el (bu.I (d:=h) (GT.gl aX)) m.toNat (by omega))
 have yC:=Bk.lo;have Ez:=Bk.hi
 refine S.go 19 .nil fun ac w β S=>?_
 refine S.p5 ⟨[(1,.v (aa m)),(2,.v (aa g)),(4,.v (aa want)),(5,.p 0 0),(8,.p 1 0),(10,.p 2 0),(11,.v (aa (if want=7 then 2 else 1)))],[[R h.mem.length ai.mem.1,R h.I.length ai.I.1,R h.buf.length ai.buf.1,R h.ag.length ai.ag.1],GT.cells (el (el h.I m.toNat).U g.toNat) ((ai.I.2 m.toNat).U.2 g.toNat),cg ah]⟩ ?_ ?_
 ·clear S;intro S
  refine S.aI 0 .nil (want==7) (fun ac w β hU m9 S=>?_) (fun ac w β hU m9 S=>?_)
  ·refine S.dG 4 .nil fun ac w β S=>?_
   exact⟨rfl,_,by rw [show(if want=7 then 2 else 1:Int)=2 by clear S;split<;>omega];exact S.z⟩
  refine S.dG 2 .nil fun ac w β S=>?_
  exact⟨rfl,_,by rw [show(if want=7 then 2 else 1:Int)=1 by clear S;split<;>omega];exact S.z⟩
 clear S;intro ac w β S
 refine S.go 2 .nil fun ac w β S=>?_
 refine iw S (fun ac w=>∃(c0:List aO) (c9:aD aO) (fJ:au) (u:_) (N:_) (β:_),(c0=h.I.set m.toNat ({el h.I m.toNat with owned:=gq (el h.I m.toNat) (el (el h.I m.toNat).U g.toNat) want}:aO))/\aj Tryz.prog Tryz.f34.ntmps w0 F u N β ⟨[(1,.v (aa m)),(2,.v (aa g)),(4,.v (aa want)),(5,.p 0 0),(8,.p 1 0),(10,.p 2 0)],[[R h.mem.length ai.mem.1,R c0.length c9.1,R h.buf.length ai.buf.1,R h.ag.length ai.ag.1],GT.cells (el (el h.I m.toNat).U g.toNat) ((ai.I.2 m.toNat).U.2 g.toNat),cg ah]⟩ ac w/\ad w0 F u N fJ c0 c9/\ad w0 F u N cd h.mem ai.mem/\ad w0 F u N fa h.buf ai.buf/\ad w0 F u N dY h.ag ai.ag/\J cd fJ/\J fa fJ/\J dY fJ/\df ai.I.2 c9.2) ?_ ?_
 ·clear S;intro S
  refine S.go 1 .nil fun ac w β S=>?_
  refine dI ?_
  rcases Bool.eq_false_or_eq_true (want != 6) with gS|gS
  ·have tw:¬(want=6):=bne_iff_ne.1 gS
   rcases Bool.eq_false_or_eq_true ((hT (el h.I m.toNat).aY (el (el h.I m.toNat).U g.toNat).aN.aY (if want=7 then 2 else 1))==2) with jf|jf
   ·have nW:(hT (el h.I m.toNat).aY (el (el h.I m.toNat).U g.toNat).aN.aY (if want=7 then 2 else 1))=2:=eq_of_beq jf
    refine S.oo [(2,true),(16,true)] (keep:=[1,2,4,5,8,10,40]) (m:=3) (σ':=⟨[(1,.v (aa m)),(2,.v (aa g)),(4,.v (aa want)),(5,.p 0 0),(8,.p 1 0),(10,.p 2 0),(40,.v (B (decide ((el h.I m.toNat).owned<1000000000))))],[[R h.mem.length ai.mem.1,R h.I.length ai.I.1,R h.buf.length ai.buf.1,R h.ag.length ai.ag.1],GT.cells (el (el h.I m.toNat).U g.toNat) ((ai.I.2 m.toNat).U.2 g.toNat),cg ah]⟩) (.cons (cq bX.ak m Tryz.underlying28) (.cons (cA bX.ak 3 m.toNat 6 (aa (el h.I m.toNat).aY)) (.cons (aE fun w hw=>Qb w (el h.I m.toNat).aY (el (el h.I m.toNat).U g.toNat).aN.aY (if want=7 then 2 else 1)) (.cons (cq bX.ak m Tryz.underlying28) (.cons (cA bX.ak 3 m.toNat 8 (aa (el h.I m.toNat).owned)) .nil))))) rfl (by kernel_rfl) (by kernel_rfl) (.cons gS (.cons jf .nil)) fun ac w S=>?_
    refine S.ex fun S=>?_
    refine S.aI 1 .nil (decide ((el h.I m.toNat).owned<1000000000)) (fun ac w β m_ r8 S=>?_) (fun ac w β m_ r8 S=>?_)
    ·refine S.go 1 .nil fun ac w β S=>?_
     refine dI ?_
     refine S.dR (f:=13) 12 (by kernel_rfl) (by kernel_rfl) fun w S=>?_
     refine S.hm 3 [0,1,2,3,4,5,6,7,8,9] [] [(42,.v (R h.I.length ai.I.1)),(43,.v (aa m)),(50,.v (aa ((el h.I m.toNat).owned+1)))] (.cons (cq bX.ak m Tryz.underlying28) (.cons (cA bX.ak 3 m.toNat 8 (aa (el h.I m.toNat).owned)) (.cons (cc ((el h.I m.toNat).owned) 1) .nil))) fun ac S=>?_
     refine S.a9 10 [11,10] [] [(51,.v (bh ai.I.1.b (ai.I.1.off+m.toNat*9)))] (.cons (cq bX.ak m Tryz.underlying28) .nil) fun ac S=>?_
     refine S.a9 11 [11] [] [(52,.v (bh ai.I.1.b (ai.I.1.off+m.toNat*9+8)))] .nil fun ac S=>?_
     refine ar.one (i:=12) (by kernel_rfl) ?_
     refine id (S.qD (α:=aO) bX (t:=3) (v:=aa ((el h.I m.toNat).owned+1)) (k:=m.toNat) (j:=8) (off:=ai.I.1.off+m.toNat*9+8) (y:=({el h.I m.toNat with owned:=((el h.I m.toNat).owned+1)}:aO)) (q:=(ai.I.2 m.toNat)) (Fy:=ab) (by kernel_rfl) (by kernel_rfl) (by omega) (by kernel_rfl) (by kernel_rfl) (Nat.le_of_ble_eq_true (by kernel_rfl)) (by kernel_rfl) (fun G fv _=>⟨G,MB fv (⟨by omega,by omega⟩),fun _ h=> .inl h⟩) (fun b _ h=>False.elim h) (fun b h=>False.elim h) (fun b h=>False.elim h) fun w N C_ S up e3 d39 Gi ahn=>?_)
     refine ar.last (by kernel_rfl) ?_
     obtain⟨lB,e3,At⟩:∃lB:Nat->ft,ad w0 F _ _ C_ (h.I.set m.toNat ({el h.I m.toNat with owned:=((el h.I m.toNat).owned+1)}:aO)) ((ai.I.1,lB):aD aO)/\df ai.I.2 lB:=⟨_,e3,df.st rfl⟩
     have yc:=df.iP (df.g3 _) At
     have d44:=d39 _ d13 (fun b _ h=>False.elim h) bK.sub
     have d45:=d39 _ (J.symm d16) (fun b _ h=>False.elim h) bO.sub
     have d46:=d39 _ (J.symm d17) (fun b _ h=>False.elim h) bq.sub
     replace bK:=bK.bk d13 up
     replace bO:=bO.bk (J.symm d16) up
     replace bq:=bq.bk (J.symm d17) up
     clear up d39 bX ahn
     have T9:(h.I.set m.toNat ({el h.I m.toNat with owned:=((el h.I m.toNat).owned+1)})).length=h.I.length:=List.length_set
     replace S:=S.z (σ':=⟨[(1,.v (aa m)),(2,.v (aa g)),(4,.v (aa want)),(5,.p 0 0),(8,.p 1 0),(10,.p 2 0),(50,.v (aa ((el h.I m.toNat).owned+1))),(52,.v (bh ai.I.1.b (ai.I.1.off+m.toNat*9+8)))],[[R h.mem.length ai.mem.1,R h.I.length ai.I.1,R h.buf.length ai.buf.1,R h.ag.length ai.ag.1],GT.cells (el (el h.I m.toNat).U g.toNat) ((ai.I.2 m.toNat).U.2 g.toNat),cg ah]⟩)
     replace S:=S.cast (σ':=⟨[(1,.v (aa m)),(2,.v (aa g)),(4,.v (aa want)),(5,.p 0 0),(8,.p 1 0),(10,.p 2 0),(50,.v (aa ((el h.I m.toNat).owned+1))),(52,.v (bh ai.I.1.b (ai.I.1.off+m.toNat*9+8)))],[[R h.mem.length ai.mem.1,R (h.I.set m.toNat ({el h.I m.toNat with owned:=((el h.I m.toNat).owned+1)})).length ai.I.1,R h.buf.length ai.buf.1,R h.ag.length ai.ag.1],GT.cells (el (el h.I m.toNat).U g.toNat) ((ai.I.2 m.toNat).U.2 g.toNat),cg ah]⟩) (by rw [show(h.I.set m.toNat ({el h.I m.toNat with owned:=((el h.I m.toNat).owned+1)})).length=h.I.length by omega])
     refine ar.done (by kernel_rfl) ?_ _
     refine S.ex fun S=>?_
     exact S.dG 0 .nil fun ac w β S=>⟨rfl,(h.I.set m.toNat ({el h.I m.toNat with owned:=((el h.I m.toNat).owned+1)})),(ai.I.1,lB),C_,_,_,_,(by clear S;first|exact FW (by assumption) (by assumption) (by assumption) (by unfold fR;(repeat' split)<;>omega)|exact FR (by assumption)|exact FT (by assumption) (by unfold fR;(repeat' split)<;>omega)|exact FU (by assumption)|exact FV (by assumption) (by unfold fR;split<;>omega)|exact FQ (by assumption) (by unfold fR;split<;>omega)),S.z,e3,bK,bO,bq,d44,d45,d46,yc⟩
    exact S.dG 2 .nil fun ac w β S=>⟨rfl,h.I,ai.I,fg,_,_,_,(by clear S;first|exact FW (by assumption) (by assumption) (by assumption) (by unfold fR;(repeat' split)<;>omega)|exact FR (by assumption)|exact FT (by assumption) (by unfold fR;(repeat' split)<;>omega)|exact FU (by assumption)|exact FV (by assumption) (by unfold fR;split<;>omega)|exact FQ (by assumption) (by unfold fR;split<;>omega)),S.z,bX,bK,bO,bq,d13,(J.symm d16),(J.symm d17),(df.g3 _)⟩
   ·have Ee:¬((hT (el h.I m.toNat).aY (el (el h.I m.toNat).U g.toNat).aN.aY (if want=7 then 2 else 1))=2):=ne_of_beq_false jf
    refine S.oo [(2,true),(16,false)] (keep:=[1,2,4,5,8,10,40]) (m:=3) (σ':=⟨[(1,.v (aa m)),(2,.v (aa g)),(4,.v (aa want)),(5,.p 0 0),(8,.p 1 0),(10,.p 2 0),(40,.v (B false))],[[R h.mem.length ai.mem.1,R h.I.length ai.I.1,R h.buf.length ai.buf.1,R h.ag.length ai.ag.1],GT.cells (el (el h.I m.toNat).U g.toNat) ((ai.I.2 m.toNat).U.2 g.toNat),cg ah]⟩) (.cons (cq bX.ak m Tryz.underlying28) (.cons (cA bX.ak 3 m.toNat 6 (aa (el h.I m.toNat).aY)) (.cons (aE fun w hw=>Qb w (el h.I m.toNat).aY (el (el h.I m.toNat).U g.toNat).aN.aY (if want=7 then 2 else 1)) .nil))) rfl (by kernel_rfl) (by kernel_rfl) (.cons gS (.cons jf .nil)) fun ac w S=>?_
    refine S.ex fun S=>?_
    exact S.dG 3 .nil fun ac w β S=>⟨rfl,h.I,ai.I,fg,_,_,_,(by clear S;first|exact FW (by assumption) (by assumption) (by assumption) (by unfold fR;(repeat' split)<;>omega)|exact FR (by assumption)|exact FT (by assumption) (by unfold fR;(repeat' split)<;>omega)|exact FU (by assumption)|exact FV (by assumption) (by unfold fR;split<;>omega)|exact FQ (by assumption) (by unfold fR;split<;>omega)),S.z,bX,bK,bO,bq,d13,(J.symm d16),(J.symm d17),(df.g3 _)⟩
  ·have Ef:want=6:=ahy gS
   refine S.oo [(2,false)] (keep:=[1,2,4,5,8,10,40]) (m:=3) (σ':=⟨[(1,.v (aa m)),(2,.v (aa g)),(4,.v (aa want)),(5,.p 0 0),(8,.p 1 0),(10,.p 2 0),(40,.v (B false))],[[R h.mem.length ai.mem.1,R h.I.length ai.I.1,R h.buf.length ai.buf.1,R h.ag.length ai.ag.1],GT.cells (el (el h.I m.toNat).U g.toNat) ((ai.I.2 m.toNat).U.2 g.toNat),cg ah]⟩) .nil rfl (by kernel_rfl) (by kernel_rfl) (.cons gS .nil) fun ac w S=>?_
   refine S.ex fun S=>?_
   exact S.dG 3 .nil fun ac w β S=>⟨rfl,h.I,ai.I,fg,_,_,_,(by clear S;first|exact FW (by assumption) (by assumption) (by assumption) (by unfold fR;(repeat' split)<;>omega)|exact FR (by assumption)|exact FT (by assumption) (by unfold fR;(repeat' split)<;>omega)|exact FU (by assumption)|exact FV (by assumption) (by unfold fR;split<;>omega)|exact FQ (by assumption) (by unfold fR;split<;>omega)),S.z,bX,bK,bO,bq,d13,(J.symm d16),(J.symm d17),(df.g3 _)⟩
 clear S bK bX bO bq
 rintro ac w ⟨c0,c9,fJ,u,N,β,adK,S,bb,bK,bO,bq,d51,d52,d53,jF⟩
 have bp:=aiO adK (by omega)
 refine S.ex fun S=>?_
 refine S.go 8 .nil fun ac w β S=>S.qN (r:=(dS (el (el h.I m.toNat).U g.toNat) (el (el h.I m.toNat).U g.toNat).aN.aY want).1) (r':=(dS (el (el h.I m.toNat).U g.toNat) (el (el h.I m.toNat).U g.toNat).aN.aY want).2) (d:=59) (aam w (el (el h.I m.toNat).U g.toNat) ((ai.I.2 m.toNat).U.2 g.toNat) (S.rd (kn bb (by clear S;first|rfl|exact B8 (by assumption)) (jF m.toNat) (by omega) (by omega))) (el (el h.I m.toNat).U g.toNat).aN.aY want) fun ac w N gm aqE kb xi S up eB e8 d60 d61 d62=>?_
 have d67:=J.w d60 bK.sub
 have d68:=J.w d60 bO.sub
 have d69:=J.w d60 bq.sub
 have d70:=J.w d60 bb.sub
 replace bK:=bK.up up
 replace bO:=bO.up up
 replace bq:=bq.up up
 replace bb:=bb.up up
 clear up d60
 clear d61
 refine S.go 9 .nil fun ac w β S=>?_
 refine iw S (fun ac w=>∃(aL:List aO) (k_:aD aO) (o2:au) (u:_) (N:_) (β:_),(aL=h.I.set m.toNat ({el h.I m.toNat with owned:=gq (el h.I m.toNat) (el (el h.I m.toNat).U g.toNat) want,outs:=ll (el h.I m.toNat) (el (el h.I m.toNat).U g.toNat) want}:aO))/\aj Tryz.prog Tryz.f34.ntmps w0 F u N β ⟨[(1,.v (aa m)),(2,.v (aa g)),(5,.p 0 0),(10,.p 2 0),(12,.p 3 0)],[[R h.mem.length ai.mem.1,R aL.length k_.1,R h.buf.length ai.buf.1,R h.ag.length ai.ag.1],GT.cells (el (el h.I m.toNat).U g.toNat) ((ai.I.2 m.toNat).U.2 g.toNat),cg ah,GT.cells (dS (el (el h.I m.toNat).U g.toNat) (el (el h.I m.toNat).U g.toNat).aN.aY want).1 gm]⟩ ac w/\ad w0 F u N o2 aL k_/\ad w0 F u N cd h.mem ai.mem/\ad w0 F u N fa h.buf ai.buf/\ad w0 F u N dY h.ag ai.ag/\ad w0 F u N kb (dS (el (el h.I m.toNat).U g.toNat) (el (el h.I m.toNat).U g.toNat).aN.aY want).1 gm/\J cd o2/\J fa o2/\J dY o2/\J kb o2/\df ai.I.2 k_.2) ?_ ?_
 ·clear S;intro S
  refine S.bd 4 .nil (dS (el (el h.I m.toNat).U g.toNat) (el (el h.I m.toNat).U g.toNat).aN.aY want).2 (fun ac w β adC S=>?_) (fun ac w β adC S=>?_)
  ·refine S.aI 4 .nil (want==5) (fun ac w β El I1 S=>?_) (fun ac w β El I1 S=>?_)
   ·have amW:(el c0 m.toNat).outs.length<=4194304:=ae.le (aU.outs (d:=(el c0 m.toNat)) (ae.el bb.ak m.toNat (by omega)))
    refine S.aI 11 (.cons (cq bb.ak m Tryz.underlying28) (.cons (cA bb.ak 38 m.toNat 4 (R (el c0 m.toNat).outs.length (c9.2 m.toNat).outs.1)) .nil)) (decide (((el c0 m.toNat).outs.length:Int)<40)) (fun ac w β AH Av S=>?_) (fun ac w β AH Av S=>?_)
    ·refine S.go 1 .nil fun ac w β S=>?_
     refine dI ?_
     let kV:b3:=⟨[(1,.v (aa m)),(2,.v (aa g)),(5,.p 0 0),(8,.p 1 0),(10,.p 2 0),(12,.p 3 0),(76,.v (B true))],[[R h.mem.length ai.mem.1,R c0.length c9.1,R h.buf.length ai.buf.1,R h.ag.length ai.ag.1],GT.cells (el (el h.I m.toNat).U g.toNat) ((ai.I.2 m.toNat).U.2 g.toNat),cg ah,GT.cells (dS (el (el h.I m.toNat).U g.toNat) (el (el h.I m.toNat).U g.toNat).aN.aY want).1 gm]⟩
     obtain⟨bw,bt,bP,S,bK,bO,bq,bb,eB⟩:∃bw bt bP,aj Tryz.prog Tryz.f34.ntmps w0 F bw bt bP kV ac w/\ad w0 F bw bt cd h.mem ai.mem/\ad w0 F bw bt fa h.buf ai.buf/\ad w0 F bw bt dY h.ag ai.ag/\ad w0 F bw bt fJ c0 c9/\ad w0 F bw bt kb (dS (el (el h.I m.toNat).U g.toNat) (el (el h.I m.toNat).U g.toNat).aN.aY want).1 gm:=⟨_,_,_,S.z,bK,bO,bq,bb,eB⟩
     refine me (fun ac w=>∃pL lH u N β,aj Tryz.prog Tryz.f34.ntmps w0 F u N β (kV.dl [8,76] [] 4 [(0,[R h.mem.length ai.mem.1,R (c0.set m.toNat ({el c0 m.toNat with outs:=((el c0 m.toNat).outs++[(bG (el (el h.I m.toNat).U g.toNat).prog (el (el h.I m.toNat).U g.toNat).aw).x])})).length pL.1,R h.buf.length ai.buf.1,R h.ag.length ai.ag.1])]) ac w/\ad w0 F u N cd h.mem ai.mem/\ad w0 F u N fa h.buf ai.buf/\ad w0 F u N dY h.ag ai.ag/\ad w0 F u N kb (dS (el (el h.I m.toNat).U g.toNat) (el (el h.I m.toNat).U g.toNat).aN.aY want).1 gm/\ad w0 F u N lH (c0.set m.toNat ({el c0 m.toNat with outs:=((el c0 m.toNat).outs++[(bG (el (el h.I m.toNat).U g.toNat).prog (el (el h.I m.toNat).U g.toNat).aw).x])})) pL/\J cd lH/\J fa lH/\J dY lH/\J kb lH/\df ai.I.2 pL.2) ?_ ?_
     ·refine S.dR (f:=20) 16 (by kernel_rfl) (by kernel_rfl) fun w S=>?_
      refine S.a9 3 [8,7,6,4,3] [] [(80,.p 0 1)] .nil fun ac S=>?_
      refine S.a9 4 [8,7,6,4] [] [(81,.v (R c0.length c9.1))] .nil fun ac S=>?_
      refine S.a9 5 [8,7,6,5] [] [(82,.v (aa m))] .nil fun ac S=>?_
      refine S.a9 6 [8,7,6] [] [(83,.v (bh c9.1.b (c9.1.off+m.toNat*9)))] (.cons (cq bb.ak m Tryz.underlying28) .nil) fun ac S=>?_
      refine S.a9 7 [8,7] [] [(84,.v (bh c9.1.b (c9.1.off+m.toNat*9+4)))] .nil fun ac S=>?_
      refine S.a9 8 [8] [] [(85,.v (R (el c0 m.toNat).outs.length (c9.2 m.toNat).outs.1))] (.cons (cA bb.ak 38 m.toNat 4 (R (el c0 m.toNat).outs.length (c9.2 m.toNat).outs.1)) .nil) fun ac S=>?_
      refine S.a9 9 [13,10,9] [] [(86,.p 1 0)] .nil fun ac S=>?_
      refine S.a9 10 [13,10] [] [(87,.v (R (el (el h.I m.toNat).U g.toNat).prog.length ((ai.I.2 m.toNat).U.2 g.toNat).prog.1))] .nil fun ac S=>?_
      refine S.a9 11 [13,12,11] [] [(88,.p 1 2)] .nil fun ac S=>?_
      refine S.a9 12 [13,12] [] [(89,.v (aa (el (el h.I m.toNat).U g.toNat).aw))] .nil fun ac S=>?_
      refine ar.mH fun W aG=>?_
      refine ar.mj (l':=cp 20 [3,4,5,6,7,8,9,10,11,12]) (by kernel_rfl) ?_
      have AK ac w pL lH u N β (S:aj Tryz.prog Tryz.f34.ntmps w0 F u N β (kV.dl [8,76] [] 4 [(0,[R h.mem.length ai.mem.1,R (c0.set m.toNat ({el c0 m.toNat with outs:=((el c0 m.toNat).outs++[(bG (el (el h.I m.toNat).U g.toNat).prog (el (el h.I m.toNat).U g.toNat).aw).x])})).length pL.1,R h.buf.length ai.buf.1,R h.ag.length ai.ag.1])]) ac w) (bK:ad w0 F u N cd h.mem ai.mem) (bO:ad w0 F u N fa h.buf ai.buf) (bq:ad w0 F u N dY h.ag ai.ag) (eB:ad w0 F u N kb (dS (el (el h.I m.toNat).U g.toNat) (el (el h.I m.toNat).U g.toNat).aN.aY want).1 gm) (LJ:ad w0 F u N lH (c0.set m.toNat ({el c0 m.toNat with outs:=((el c0 m.toNat).outs++[(bG (el (el h.I m.toNat).U g.toNat).prog (el (el h.I m.toNat).U g.toNat).aw).x])})) pL) (d161:J cd lH) (d162:J fa lH) (d163:J dY lH) (d164:J kb lH) (I4:df ai.I.2 pL.2):W 0 (cp 20 [0,1,2,3,4,5,6,7,8,9,10,11,12,13,14,15,16,17,18,19]) ac w:=by
       exact mL aG ⟨rfl,pL,lH,_,_,_,S.z,bK,bO,bq,eB,LJ,d161,d162,d163,d164,I4⟩
      have RN ac w iM iR u N β (S:aj Tryz.prog Tryz.f34.ntmps w0 F u N β (kV.dl [8,76] [(78,.v (R c0.length c9.1)),(79,.v (aa m)),(85,.v (R (el c0 m.toNat).outs.length (c9.2 m.toNat).outs.1)),(92,.v (R 1 iM.1))] 4 []) ac w) (bK:ad w0 F u N cd h.mem ai.mem) (bO:ad w0 F u N fa h.buf ai.buf) (bq:ad w0 F u N dY h.ag ai.ag) (bb:ad w0 F u N fJ c0 c9) (eB:ad w0 F u N kb (dS (el (el h.I m.toNat).U g.toNat) (el (el h.I m.toNat).U g.toNat).aN.aY want).1 gm) (gk:ad w0 F u N iR ([(bG (el (el h.I m.toNat).U g.toNat).prog (el (el h.I m.toNat).U g.toNat).aw).x]) iM) (d166:J cd iR) (d167:J fa iR) (d168:J dY iR) (d169:J fJ iR) (d170:J kb iR) (al:d_ bt bw N u) (aP:cR kV.aM.length bP β):W 4 (cp 20 [0,1,2,3,4,5,6,7,8,9,10,11,12,13,14,15]) ac w:=by
       refine eo aG 16 ?_
       have amF:(el c0 m.toNat).outs.length<=4194304:=ae.le (aU.outs (d:=(el c0 m.toNat)) (ae.el bb.ak m.toNat (by omega)))
       refine id (S.Hx bb m.toNat gk.ak (by':=8) (d:=93) (by omega) (show(el c0 m.toNat).outs.length+([(bG (el (el h.I m.toNat).U g.toNat).prog (el (el h.I m.toNat).U g.toNat).aw).x]).length<=4194304 by simp only [List.length_cons,List.length_nil];omega) fun ac w N sP GK S up wC aqG alm zs ag5 aln=>?_)
       refine ar.c_ fun bj=>?_
       have d184:=zs _ bK.sub
       have d185:=zs _ bO.sub
       have d186:=zs _ bq.sub
       have d187:=zs _ eB.sub
       have d189:=zs _ bb.sub
       replace bK:=bK.bk d51 up
       replace bO:=bO.bk d52 up
       replace bq:=bq.bk d53 up
       replace eB:=eB.bk (J.symm d70) up
       replace gk:=gk.bk (J.symm d169) up
       clear up zs bb
       refine S.cX (σ':=(kV.dl [8,76] [(78,.v (R c0.length c9.1)),(79,.v (aa m)),(93,.v (R ((el c0 m.toNat).outs++[(bG (el (el h.I m.toNat).U g.toNat).prog (el (el h.I m.toNat).U g.toNat).aw).x]).length sP.1))] 4 [])) (f:=3) (l2:=cp 20 [0,1,2,3,4,5,6,7,8,9,10,11,12,13,14,15,16]) aG [] bj fun _ S=>?_
       refine eo aG 17 (S.wl (σ':=(kV.dl [8,76] [(93,.v (R ((el c0 m.toNat).outs++[(bG (el (el h.I m.toNat).U g.toNat).prog (el (el h.I m.toNat).U g.toNat).aw).x]).length sP.1)),(95,.v (bh c9.1.b (c9.1.off+m.toNat*9+4)))] 4 [])) (f:=1) (l2:=cp 20 [0,1,2,3,4,5,6,7,8,9,10,11,12,13,14,15,16,17,18]) aG [18] (.cons (cq wC.ak m Tryz.underlying28) .nil) fun _ _ _ S=>?_)
       refine eo aG 19 ?_
       refine id (S.qD (α:=aO) wC (t:=38) (v:=R ((el c0 m.toNat).outs++[(bG (el (el h.I m.toNat).U g.toNat).prog (el (el h.I m.toNat).U g.toNat).aw).x]).length sP.1) (k:=m.toNat) (j:=4) (off:=c9.1.off+m.toNat*9+4) (y:=({el c0 m.toNat with outs:=((el c0 m.toNat).outs++[(bG (el (el h.I m.toNat).U g.toNat).prog (el (el h.I m.toNat).U g.toNat).aw).x])}:aO)) (q:=({c9.2 m.toNat with outs:=sP}:ft)) (Fy:=GK) (by kernel_rfl) (by kernel_rfl) (by omega) (by kernel_rfl) (by kernel_rfl) (Nat.le_of_ble_eq_true (by kernel_rfl)) (by kernel_rfl) alm d189 ag5 aln fun w N Oq S up BR d193 aqL ag_=>?_)
       refine ar.c_ fun bj=>?_
       obtain⟨wM,BR,acG⟩:∃wM:Nat->ft,ad w0 F _ _ Oq (c0.set m.toNat ({el c0 m.toNat with outs:=((el c0 m.toNat).outs++[(bG (el (el h.I m.toNat).U g.toNat).prog (el (el h.I m.toNat).U g.toNat).aw).x])}:aO)) ((c9.1,wM):aD aO)/\df c9.2 wM:=⟨_,BR,df.st rfl⟩
       have acH:=df.iP jF acG
       have d198:=d193 _ d51 d184 bK.sub
       have d199:=d193 _ d52 d185 bO.sub
       have d200:=d193 _ d53 d186 bq.sub
       have d201:=d193 _ (J.symm d70) d187 eB.sub
       replace bK:=bK.bk d51 up
       replace bO:=bO.bk d52 up
       replace bq:=bq.bk d53 up
       replace eB:=eB.bk (J.symm d70) up
       clear up d193 wC ag_
       have apD:(c0.set m.toNat ({el c0 m.toNat with outs:=((el c0 m.toNat).outs++[(bG (el (el h.I m.toNat).U g.toNat).prog (el (el h.I m.toNat).U g.toNat).aw).x])})).length=c0.length:=List.length_set
       replace S:=S.z (σ':=⟨[(1,.v (aa m)),(2,.v (aa g)),(5,.p 0 0),(10,.p 2 0),(12,.p 3 0),(93,.v (R ((el c0 m.toNat).outs++[(bG (el (el h.I m.toNat).U g.toNat).prog (el (el h.I m.toNat).U g.toNat).aw).x]).length sP.1)),(95,.v (bh c9.1.b (c9.1.off+m.toNat*9+4)))],[[R h.mem.length ai.mem.1,R c0.length c9.1,R h.buf.length ai.buf.1,R h.ag.length ai.ag.1],GT.cells (el (el h.I m.toNat).U g.toNat) ((ai.I.2 m.toNat).U.2 g.toNat),cg ah,GT.cells (dS (el (el h.I m.toNat).U g.toNat) (el (el h.I m.toNat).U g.toNat).aN.aY want).1 gm]⟩)
       replace S:=S.cast (σ':=⟨[(1,.v (aa m)),(2,.v (aa g)),(5,.p 0 0),(10,.p 2 0),(12,.p 3 0),(93,.v (R ((el c0 m.toNat).outs++[(bG (el (el h.I m.toNat).U g.toNat).prog (el (el h.I m.toNat).U g.toNat).aw).x]).length sP.1)),(95,.v (bh c9.1.b (c9.1.off+m.toNat*9+4)))],[[R h.mem.length ai.mem.1,R (c0.set m.toNat ({el c0 m.toNat with outs:=((el c0 m.toNat).outs++[(bG (el (el h.I m.toNat).U g.toNat).prog (el (el h.I m.toNat).U g.toNat).aw).x])})).length c9.1,R h.buf.length ai.buf.1,R h.ag.length ai.ag.1],GT.cells (el (el h.I m.toNat).U g.toNat) ((ai.I.2 m.toNat).U.2 g.toNat),cg ah,GT.cells (dS (el (el h.I m.toNat).U g.toNat) (el (el h.I m.toNat).U g.toNat).aN.aY want).1 gm]⟩) (by rw [show(c0.set m.toNat ({el c0 m.toNat with outs:=((el c0 m.toNat).outs++[(bG (el (el h.I m.toNat).U g.toNat).prog (el (el h.I m.toNat).U g.toNat).aw).x])})).length=c0.length by omega])
       exact S.cX aG [] bj fun _ S=>AK _ _ (c9.1,wM) Oq _ _ _ S bK bO bq eB BR d198 d199 d200 d201 acH
      have RR ac w u N β (S:aj Tryz.prog Tryz.f34.ntmps w0 F u N β (kV.dl [8,76] [(78,.v (R c0.length c9.1)),(79,.v (aa m)),(85,.v (R (el c0 m.toNat).outs.length (c9.2 m.toNat).outs.1)),(91,.v (aa (bG (el (el h.I m.toNat).U g.toNat).prog (el (el h.I m.toNat).U g.toNat).aw).x))] 4 []) ac w) (bK:ad w0 F u N cd h.mem ai.mem) (bO:ad w0 F u N fa h.buf ai.buf) (bq:ad w0 F u N dY h.ag ai.ag) (bb:ad w0 F u N fJ c0 c9) (eB:ad w0 F u N kb (dS (el (el h.I m.toNat).U g.toNat) (el (el h.I m.toNat).U g.toNat).aN.aY want).1 gm) (al:d_ bt bw N u) (aP:cR kV.aM.length bP β):W 5 (cp 20 [0,1,2,3,4,5,6,7,8,9,10,11,12,13,14]) ac w:=by
       refine eo aG 15 ?_
       refine id (S.p2 (α:=Int) (x:=(bG (el (el h.I m.toNat).U g.toNat).prog (el (el h.I m.toNat).U g.toNat).aw).x) (p:=()) (F:=ab) (je.x (d:=(bG (el (el h.I m.toNat).U g.toNat).prog (el (el h.I m.toNat).U g.toNat).aw)) (l4 (az.prog (d:=(el (el h.I m.toNat).U g.toNat)) (kn bb (by clear S;first|rfl|exact B8 (by assumption)) (jF m.toNat) (by omega) (by omega))) (el (el h.I m.toNat).U g.toNat).aw)) (fun b h=>False.elim h) (fun b h=>False.elim h) (d:=92) (by kernel_rfl) fun ac w N ajo WO S up FA d207=>?_)
       have Sr:=fun b h=>(⟨(up b (al b h).1).1,(up b (al b h).1).2.trans (al b h).2⟩:_/\_)
       refine ar.de S Sr aP fun bj=>?_
       have d209:=d207 _ (fun b _ h=>False.elim h) bK.sub
       have d210:=d207 _ (fun b _ h=>False.elim h) bO.sub
       have d211:=d207 _ (fun b _ h=>False.elim h) bq.sub
       have d212:=d207 _ (fun b _ h=>False.elim h) bb.sub
       have d213:=d207 _ (fun b _ h=>False.elim h) eB.sub
       replace bK:=bK.up up
       replace bO:=bO.up up
       replace bq:=bq.up up
       replace bb:=bb.up up
       replace eB:=eB.up up
       clear up d207
       exact S.cX aG [] bj fun _ S=>RN _ _ ajo WO _ _ _ S bK bO bq bb eB FA d209 d210 d211 d212 d213 Sr aP
      have ad_ ac w iM iR u N β (S:aj Tryz.prog Tryz.f34.ntmps w0 F u N β (kV.dl [8,76] [(77,.p 0 1),(79,.v (aa m)),(85,.v (R (el c0 m.toNat).outs.length (c9.2 m.toNat).outs.1)),(92,.v (R 1 iM.1))] 4 []) ac w) (bK:ad w0 F u N cd h.mem ai.mem) (bO:ad w0 F u N fa h.buf ai.buf) (bq:ad w0 F u N dY h.ag ai.ag) (bb:ad w0 F u N fJ c0 c9) (eB:ad w0 F u N kb (dS (el (el h.I m.toNat).U g.toNat) (el (el h.I m.toNat).U g.toNat).aN.aY want).1 gm) (gk:ad w0 F u N iR ([(bG (el (el h.I m.toNat).U g.toNat).prog (el (el h.I m.toNat).U g.toNat).aw).x]) iM) (d215:J cd iR) (d216:J fa iR) (d217:J dY iR) (d218:J fJ iR) (d219:J kb iR) (al:d_ bt bw N u) (aP:cR kV.aM.length bP β):W 5 (cp 20 [0,2,3,4,5,6,7,8,9,10,11,12,13,14,15]) ac w:=by
       refine gA aG 1 16 (S.e_ aG al aP [] .nil fun _ _ _ S cb=>RN _ _ iM iR _ _ _ S bK bO bq bb eB gk d215 d216 d217 d218 d219 al cb) ?_
       have amI:(el c0 m.toNat).outs.length<=4194304:=ae.le (aU.outs (d:=(el c0 m.toNat)) (ae.el bb.ak m.toNat (by omega)))
       refine id (S.Hx bb m.toNat gk.ak (by':=8) (d:=93) (by omega) (show(el c0 m.toNat).outs.length+([(bG (el (el h.I m.toNat).U g.toNat).prog (el (el h.I m.toNat).U g.toNat).aw).x]).length<=4194304 by simp only [List.length_cons,List.length_nil];omega) fun ac w N rA GL S up BU aqH alp w8 ahd alq=>?_)
       refine ar.c_ fun bj=>?_
       have d233:=w8 _ bK.sub
       have d234:=w8 _ bO.sub
       have d235:=w8 _ bq.sub
       have d236:=w8 _ eB.sub
       have d238:=w8 _ bb.sub
       replace bK:=bK.bk d51 up
       replace bO:=bO.bk d52 up
       replace bq:=bq.bk d53 up
       replace eB:=eB.bk (J.symm d70) up
       clear up w8 bb
       refine S.cX (σ':=(kV.dl [8,76] [(77,.p 0 1),(79,.v (aa m)),(93,.v (R ((el c0 m.toNat).outs++[(bG (el (el h.I m.toNat).U g.toNat).prog (el (el h.I m.toNat).U g.toNat).aw).x]).length rA.1))] 4 [])) (f:=4) (l2:=cp 20 [0,2,3,4,5,6,7,8,9,10,11,12,13,14,15,16]) aG [] bj fun _ S=>?_
       refine eo aG 1 (S.wl (σ':=(kV.dl [8,76] [(78,.v (R c0.length c9.1)),(79,.v (aa m)),(93,.v (R ((el c0 m.toNat).outs++[(bG (el (el h.I m.toNat).U g.toNat).prog (el (el h.I m.toNat).U g.toNat).aw).x]).length rA.1))] 4 [])) (f:=3) (l2:=cp 20 [0,1,2,3,4,5,6,7,8,9,10,11,12,13,14,15,16]) aG [] .nil fun _ _ _ S=>?_)
       refine eo aG 17 (S.wl (σ':=(kV.dl [8,76] [(93,.v (R ((el c0 m.toNat).outs++[(bG (el (el h.I m.toNat).U g.toNat).prog (el (el h.I m.toNat).U g.toNat).aw).x]).length rA.1)),(95,.v (bh c9.1.b (c9.1.off+m.toNat*9+4)))] 4 [])) (f:=1) (l2:=cp 20 [0,1,2,3,4,5,6,7,8,9,10,11,12,13,14,15,16,17,18]) aG [18] (.cons (cq BU.ak m Tryz.underlying28) .nil) fun _ _ _ S=>?_)
       refine eo aG 19 ?_
       refine id (S.qD (α:=aO) BU (t:=38) (v:=R ((el c0 m.toNat).outs++[(bG (el (el h.I m.toNat).U g.toNat).prog (el (el h.I m.toNat).U g.toNat).aw).x]).length rA.1) (k:=m.toNat) (j:=4) (off:=c9.1.off+m.toNat*9+4) (y:=({el c0 m.toNat with outs:=((el c0 m.toNat).outs++[(bG (el (el h.I m.toNat).U g.toNat).prog (el (el h.I m.toNat).U g.toNat).aw).x])}:aO)) (q:=({c9.2 m.toNat with outs:=rA}:ft)) (Fy:=GL) (by kernel_rfl) (by kernel_rfl) (by omega) (by kernel_rfl) (by kernel_rfl) (Nat.le_of_ble_eq_true (by kernel_rfl)) (by kernel_rfl) alp d238 ahd alq fun w N Ov S up LL d242 aqM ahg=>?_)
       refine ar.c_ fun bj=>?_
       obtain⟨F7,LL,acI⟩:∃F7:Nat->ft,ad w0 F _ _ Ov (c0.set m.toNat ({el c0 m.toNat with outs:=((el c0 m.toNat).outs++[(bG (el (el h.I m.toNat).U g.toNat).prog (el (el h.I m.toNat).U g.toNat).aw).x])}:aO)) ((c9.1,F7):aD aO)/\df c9.2 F7:=⟨_,LL,df.st rfl⟩
       have acJ:=df.iP jF acI
       have d247:=d242 _ d51 d233 bK.sub
       have d248:=d242 _ d52 d234 bO.sub
       have d249:=d242 _ d53 d235 bq.sub
       have d250:=d242 _ (J.symm d70) d236 eB.sub
       replace bK:=bK.bk d51 up
       replace bO:=bO.bk d52 up
       replace bq:=bq.bk d53 up
       replace eB:=eB.bk (J.symm d70) up
       clear up d242 BU ahg
       have apL:(c0.set m.toNat ({el c0 m.toNat with outs:=((el c0 m.toNat).outs++[(bG (el (el h.I m.toNat).U g.toNat).prog (el (el h.I m.toNat).U g.toNat).aw).x])})).length=c0.length:=List.length_set
       replace S:=S.z (σ':=⟨[(1,.v (aa m)),(2,.v (aa g)),(5,.p 0 0),(10,.p 2 0),(12,.p 3 0),(93,.v (R ((el c0 m.toNat).outs++[(bG (el (el h.I m.toNat).U g.toNat).prog (el (el h.I m.toNat).U g.toNat).aw).x]).length rA.1)),(95,.v (bh c9.1.b (c9.1.off+m.toNat*9+4)))],[[R h.mem.length ai.mem.1,R c0.length c9.1,R h.buf.length ai.buf.1,R h.ag.length ai.ag.1],GT.cells (el (el h.I m.toNat).U g.toNat) ((ai.I.2 m.toNat).U.2 g.toNat),cg ah,GT.cells (dS (el (el h.I m.toNat).U g.toNat) (el (el h.I m.toNat).U g.toNat).aN.aY want).1 gm]⟩)
       replace S:=S.cast (σ':=⟨[(1,.v (aa m)),(2,.v (aa g)),(5,.p 0 0),(10,.p 2 0),(12,.p 3 0),(93,.v (R ((el c0 m.toNat).outs++[(bG (el (el h.I m.toNat).U g.toNat).prog (el (el h.I m.toNat).U g.toNat).aw).x]).length rA.1)),(95,.v (bh c9.1.b (c9.1.off+m.toNat*9+4)))],[[R h.mem.length ai.mem.1,R (c0.set m.toNat ({el c0 m.toNat with outs:=((el c0 m.toNat).outs++[(bG (el (el h.I m.toNat).U g.toNat).prog (el (el h.I m.toNat).U g.toNat).aw).x])})).length c9.1,R h.buf.length ai.buf.1,R h.ag.length ai.ag.1],GT.cells (el (el h.I m.toNat).U g.toNat) ((ai.I.2 m.toNat).U.2 g.toNat),cg ah,GT.cells (dS (el (el h.I m.toNat).U g.toNat) (el (el h.I m.toNat).U g.toNat).aN.aY want).1 gm]⟩) (by rw [show(c0.set m.toNat ({el c0 m.toNat with outs:=((el c0 m.toNat).outs++[(bG (el (el h.I m.toNat).U g.toNat).prog (el (el h.I m.toNat).U g.toNat).aw).x])})).length=c0.length by omega])
       exact S.cX aG [] bj fun _ S=>AK _ _ (c9.1,F7) Ov _ _ _ S bK bO bq eB LL d247 d248 d249 d250 acJ
      have aea ac w u N β (S:aj Tryz.prog Tryz.f34.ntmps w0 F u N β (kV.dl [8,76] [(77,.p 0 1),(79,.v (aa m)),(85,.v (R (el c0 m.toNat).outs.length (c9.2 m.toNat).outs.1)),(91,.v (aa (bG (el (el h.I m.toNat).U g.toNat).prog (el (el h.I m.toNat).U g.toNat).aw).x))] 4 []) ac w) (bK:ad w0 F u N cd h.mem ai.mem) (bO:ad w0 F u N fa h.buf ai.buf) (bq:ad w0 F u N dY h.ag ai.ag) (bb:ad w0 F u N fJ c0 c9) (eB:ad w0 F u N kb (dS (el (el h.I m.toNat).U g.toNat) (el (el h.I m.toNat).U g.toNat).aN.aY want).1 gm) (al:d_ bt bw N u) (aP:cR kV.aM.length bP β):W 6 (cp 20 [0,2,3,4,5,6,7,8,9,10,11,12,13,14]) ac w:=by
       refine gA aG 1 15 (S.e_ aG al aP [] .nil fun _ _ _ S cb=>RR _ _ _ _ _ S bK bO bq bb eB al cb) ?_
       refine id (S.p2 (α:=Int) (x:=(bG (el (el h.I m.toNat).U g.toNat).prog (el (el h.I m.toNat).U g.toNat).aw).x) (p:=()) (F:=ab) (je.x (d:=(bG (el (el h.I m.toNat).U g.toNat).prog (el (el h.I m.toNat).U g.toNat).aw)) (l4 (az.prog (d:=(el (el h.I m.toNat).U g.toNat)) (kn bb (by clear S;first|rfl|exact B8 (by assumption)) (jF m.toNat) (by omega) (by omega))) (el (el h.I m.toNat).U g.toNat).aw)) (fun b h=>False.elim h) (fun b h=>False.elim h) (d:=92) (by kernel_rfl) fun ac w N ajp GM S up BV d256=>?_)
       have St:=fun b h=>(⟨(up b (al b h).1).1,(up b (al b h).1).2.trans (al b h).2⟩:_/\_)
       refine ar.de S St aP fun bj=>?_
       have d258:=d256 _ (fun b _ h=>False.elim h) bK.sub
       have d259:=d256 _ (fun b _ h=>False.elim h) bO.sub
       have d260:=d256 _ (fun b _ h=>False.elim h) bq.sub
       have d261:=d256 _ (fun b _ h=>False.elim h) bb.sub
       have d262:=d256 _ (fun b _ h=>False.elim h) eB.sub
       replace bK:=bK.up up
       replace bO:=bO.up up
       replace bq:=bq.up up
       replace bb:=bb.up up
       replace eB:=eB.up up
       clear up d256
       exact S.cX aG [] bj fun _ S=>ad_ _ _ ajp GM _ _ _ S bK bO bq bb eB BV d258 d259 d260 d261 d262 St aP
      have Jn ac w u N β (S:aj Tryz.prog Tryz.f34.ntmps w0 F u N β (kV.dl [8,76] [(78,.v (R c0.length c9.1)),(79,.v (aa m)),(85,.v (R (el c0 m.toNat).outs.length (c9.2 m.toNat).outs.1)),(87,.v (R (el (el h.I m.toNat).U g.toNat).prog.length ((ai.I.2 m.toNat).U.2 g.toNat).prog.1)),(89,.v (aa (el (el h.I m.toNat).U g.toNat).aw))] 4 []) ac w) (bK:ad w0 F u N cd h.mem ai.mem) (bO:ad w0 F u N fa h.buf ai.buf) (bq:ad w0 F u N dY h.ag ai.ag) (bb:ad w0 F u N fJ c0 c9) (eB:ad w0 F u N kb (dS (el (el h.I m.toNat).U g.toNat) (el (el h.I m.toNat).U g.toNat).aN.aY want).1 gm) (al:d_ bt bw N u) (aP:cR kV.aM.length bP β):W 7 (cp 20 [0,1,2,3,4,5,6,7,8,9,10,11,12]) ac w:=by
       exact eo aG 13 (S.e_ aG al aP [14] (.cons (aE fun w hw=>uU w (el (el h.I m.toNat).U g.toNat).prog ((ai.I.2 m.toNat).U.2 g.toNat).prog (bJ (az.prog (d:=(el (el h.I m.toNat).U g.toNat)) (kn bb (by clear S;first|rfl|exact B8 (by assumption)) (jF m.toNat) (by omega) (by omega))) hw) (el (el h.I m.toNat).U g.toNat).aw) .nil) fun _ _ _ S cb=>RR _ _ _ _ _ S bK bO bq bb eB al cb)
      have aeb ac w u N β (S:aj Tryz.prog Tryz.f34.ntmps w0 F u N β (kV.dl [8,76] [(77,.p 0 1),(79,.v (aa m)),(85,.v (R (el c0 m.toNat).outs.length (c9.2 m.toNat).outs.1)),(87,.v (R (el (el h.I m.toNat).U g.toNat).prog.length ((ai.I.2 m.toNat).U.2 g.toNat).prog.1)),(89,.v (aa (el (el h.I m.toNat).U g.toNat).aw))] 4 []) ac w) (bK:ad w0 F u N cd h.mem ai.mem) (bO:ad w0 F u N fa h.buf ai.buf) (bq:ad w0 F u N dY h.ag ai.ag) (bb:ad w0 F u N fJ c0 c9) (eB:ad w0 F u N kb (dS (el (el h.I m.toNat).U g.toNat) (el (el h.I m.toNat).U g.toNat).aN.aY want).1 gm) (al:d_ bt bw N u) (aP:cR kV.aM.length bP β):W 8 (cp 20 [0,2,3,4,5,6,7,8,9,10,11,12]) ac w:=by
       exact gA aG 1 13 (S.e_ aG al aP [] .nil fun _ _ _ S cb=>Jn _ _ _ _ _ S bK bO bq bb eB al cb) (S.e_ aG al aP [14] (.cons (aE fun w hw=>uU w (el (el h.I m.toNat).U g.toNat).prog ((ai.I.2 m.toNat).U.2 g.toNat).prog (bJ (az.prog (d:=(el (el h.I m.toNat).U g.toNat)) (kn bb (by clear S;first|rfl|exact B8 (by assumption)) (jF m.toNat) (by omega) (by omega))) hw) (el (el h.I m.toNat).U g.toNat).aw) .nil) fun _ _ _ S cb=>aea _ _ _ _ _ S bK bO bq bb eB al cb)
      rw [aG]
      exact S.cX aG [0,2] (fun _=>S.um) fun _ S=>aeb _ _ _ _ _ S bK bO bq bb eB (fun _ h=>⟨h,rfl⟩) (fun _ _=>rfl)
     clear S bK bO bq bb eB
     rintro ac w ⟨pL,lH,u,N,β,S,bK,bO,bq,eB,LJ,d265,d266,d267,d268,I4⟩
     refine S.ex fun S=>?_
     exact S.dG 0 .nil fun ac w β S=>⟨rfl,(c0.set m.toNat ({el c0 m.toNat with outs:=((el c0 m.toNat).outs++[(bG (el (el h.I m.toNat).U g.toNat).prog (el (el h.I m.toNat).U g.toNat).aw).x])})),pL,lH,_,_,_,(by clear S;first|exact FN (by assumption) (by assumption) (by assumption) (by assumption)|exact FJ (by assumption) (by assumption)|exact FK (by assumption) (by assumption)|exact FL (by assumption) (by assumption)|exact FM (by assumption) (by assumption) (by assumption)|exact FI (by assumption) (by assumption)),S.z,LJ,bK,bO,bq,eB,d265,d266,d267,d268,I4⟩
    exact S.dG 2 .nil fun ac w β S=>⟨rfl,c0,c9,fJ,_,_,_,(by clear S;first|exact FN (by assumption) (by assumption) (by assumption) (by assumption)|exact FJ (by assumption) (by assumption)|exact FK (by assumption) (by assumption)|exact FL (by assumption) (by assumption)|exact FM (by assumption) (by assumption) (by assumption)|exact FI (by assumption) (by assumption)),S.z,bb,bK,bO,bq,eB,d51,d52,d53,(J.symm d70),jF⟩
   exact S.dG 13 .nil fun ac w β S=>⟨rfl,c0,c9,fJ,_,_,_,(by clear S;first|exact FN (by assumption) (by assumption) (by assumption) (by assumption)|exact FJ (by assumption) (by assumption)|exact FK (by assumption) (by assumption)|exact FL (by assumption) (by assumption)|exact FM (by assumption) (by assumption) (by assumption)|exact FI (by assumption) (by assumption)),S.z,bb,bK,bO,bq,eB,d51,d52,d53,(J.symm d70),jF⟩
  exact S.dG 17 .nil fun ac w β S=>⟨rfl,c0,c9,fJ,_,_,_,(by clear S;first|exact FN (by assumption) (by assumption) (by assumption) (by assumption)|exact FJ (by assumption) (by assumption)|exact FK (by assumption) (by assumption)|exact FL (by assumption) (by assumption)|exact FM (by assumption) (by assumption) (by assumption)|exact FI (by assumption) (by assumption)),S.z,bb,bK,bO,bq,eB,d51,d52,d53,(J.symm d70),jF⟩
 clear S bK bO bq bb eB e8
 rintro ac w ⟨aL,k_,o2,u,N,β,lV,S,hJ,bK,bO,bq,eB,d269,d270,d271,d272,RA⟩
 have apf:=aiJ lV (by omega)
 refine S.ex fun S=>?_
 refine S.go 2 .nil fun ac w β S=>?_
 refine dI ?_
 refine S.dR (f:=10) 9 (by kernel_rfl) (by kernel_rfl) fun w S=>?_
 refine S.hm 1 [0,1,2,3,4,5,6,7,8] [] [(103,.v (GT.val (dS (el (el h.I m.toNat).U g.toNat) (el (el h.I m.toNat).U g.toNat).aN.aY want).1 gm)),(104,.v (bh (k_.2 m.toNat).U.1.b ((k_.2 m.toNat).U.1.off+g.toNat*15)))] (.cons (cq hJ.ak m Tryz.underlying28) (.cons (cA hJ.ak 71 m.toNat 3 (R (el aL m.toNat).U.length (k_.2 m.toNat).U.1)) (.cons (cq (aU.U (d:=(el aL m.toNat)) (ae.el hJ.ak m.toNat (by omega))) g Tryz.underlying71) .nil))) fun ac S=>?_
 refine ar.one (i:=9) (by kernel_rfl) ?_
 obtain⟨al2,FB,wV,XO⟩:=pk hJ (k:=m.toNat) (show m.toNat<aL.length by omega)
 have apN:=ae.le FB.ak
 have ahh:=FB.sub
 refine id (S.kU (α:=ax) FB (t:=70) (k:=g.toNat) (off:=(k_.2 m.toNat).U.1.off+g.toNat*15) eB (J.symm (J.symm (J.part (J.symm d272) wV))) fun w N al3 aqz S up UO d282 aj8 Uq=>?_)
 refine ar.last (by kernel_rfl) ?_
 have d285:=d282 _ (J.symm (J.part (J.symm d269) wV)) d67 bK.sub
 have d286:=d282 _ (J.symm (J.part (J.symm d270) wV)) d68 bO.sub
 have d287:=d282 _ (J.symm (J.part (J.symm d271) wV)) d69 bq.sub
 replace bK:=bK.bk (J.symm (J.part (J.symm d269) wV)) up
 replace bO:=bO.bk (J.symm (J.part (J.symm d270) wV)) up
 replace bq:=bq.bk (J.symm (J.part (J.symm d271) wV)) up
 clear d282 FB
 obtain⟨Ve,UP,Yo⟩:=XO _ _ _ _ _ kb up UO aj8 (J.symm d272) (by show [R _ _]=[R _ _];rw [List.length_set]) (fun b h=>Uq b (ahh b h))
 clear up UO Uq
 have agn:(aL.set m.toNat ({el aL m.toNat with U:=((el aL m.toNat).U.set g.toNat (dS (el (el h.I m.toNat).U g.toNat) (el (el h.I m.toNat).U g.toNat).aN.aY want).1)})).length=aL.length:=List.length_set
 obtain⟨zP,R5⟩:∃z,z=aL.set m.toNat ({el aL m.toNat with U:=((el aL m.toNat).U.set g.toNat (dS (el (el h.I m.toNat).U g.toNat) (el (el h.I m.toNat).U g.toNat).aN.aY want).1)}):=⟨_,rfl⟩
 rw [←R5] at UP Yo agn
 obtain⟨apO,anj⟩:=Gn R5 (show m.toNat<aL.length by omega) List.length_set
 replace S:=S.z (σ':=⟨[(5,.p 0 0),(10,.p 2 0),(103,.v (GT.val (dS (el (el h.I m.toNat).U g.toNat) (el (el h.I m.toNat).U g.toNat).aN.aY want).1 gm)),(104,.v (bh (k_.2 m.toNat).U.1.b ((k_.2 m.toNat).U.1.off+g.toNat*15)))],[[R h.mem.length ai.mem.1,R aL.length k_.1,R h.buf.length ai.buf.1,R h.ag.length ai.ag.1],GT.cells (el (el h.I m.toNat).U g.toNat) ((ai.I.2 m.toNat).U.2 g.toNat),cg ah,GT.cells (dS (el (el h.I m.toNat).U g.toNat) (el (el h.I m.toNat).U g.toNat).aN.aY want).1 gm]⟩)
 replace S:=S.cast (σ':=⟨[(5,.p 0 0),(10,.p 2 0),(103,.v (GT.val (dS (el (el h.I m.toNat).U g.toNat) (el (el h.I m.toNat).U g.toNat).aN.aY want).1 gm)),(104,.v (bh (k_.2 m.toNat).U.1.b ((k_.2 m.toNat).U.1.off+g.toNat*15)))],[[R h.mem.length ai.mem.1,R zP.length k_.1,R h.buf.length ai.buf.1,R h.ag.length ai.ag.1],GT.cells (el (el h.I m.toNat).U g.toNat) ((ai.I.2 m.toNat).U.2 g.toNat),cg ah,GT.cells (dS (el (el h.I m.toNat).U g.toNat) (el (el h.I m.toNat).U g.toNat).aN.aY want).1 gm]⟩) (by rw [show zP.length=aL.length by omega])
 refine ar.done (by kernel_rfl) ?_ _
 refine S.ex fun S=>?_
 refine S.bo 8 .nil [GT.val (⟨h.mem,zP,h.buf,h.ag⟩:ah) (⟨ai.mem,(k_.1,Ve),ai.buf,ai.ag⟩:b_)] fun ac w β S=>?_
 have ah1:=fs (x:=(⟨h.mem,zP,h.buf,h.ag⟩:ah)) (p:=(⟨ai.mem,(k_.1,Ve),ai.buf,ai.ag⟩:b_)) bK UP bO bq (J.symm (J.or (J.symm d269) (J.symm d285))) d14 d15 (J.symm (J.symm (J.or (J.symm d270) (J.symm d286)))) (J.symm (J.symm (J.or (J.symm d271) (J.symm d287)))) d18
 exact Cs S (show tn h m (ju (el h.I m.toNat) g (el (el h.I m.toNat).U g.toNat) want)=(⟨h.mem,zP,h.buf,h.ag⟩:ah) by clear S;(first|exact akP (by assumption) (by assumption))) rfl ah1
theorem TV {p:Prop} (h:p:=by clear S;subst hq;(first|(rw [oF (.inl (by assumption))];done)|(rw [oF (.inr (by assumption))];done)|(rw [qk (by assumption) (by assumption),Kd (by assumption)];rfl)|(rw [qk (by assumption) (by assumption),Ke (by assumption)];rfl)|(rw [qk (by assumption) (by assumption)];exact EH (by omega))|(rw [qk (by assumption) (by assumption)];exact EI (by omega) (by omega) (by omega) (by omega)))):p:=h
theorem E9 {p:Prop} (h:p:=by clear S;(first|(rw [oF (.inl (by assumption))];done)|(rw [oF (.inr (by assumption))];done)|(rw [qk (by assumption) (by assumption),Kd (by assumption)];rfl)|(rw [qk (by assumption) (by assumption),Ke (by assumption)];rfl)|(rw [qk (by assumption) (by assumption)];exact EH (by omega))|(rw [qk (by assumption) (by assumption)];exact EI (by omega) (by omega) (by omega) (by omega)))):p:=h
theorem T6 {p:Prop} (h:p:=by clear S;subst hq;(first|(rw [oF (.inl (by assumption))];done)|(rw [oF (.inr (by assumption))];done)|(rw [qk (by assumption) (by assumption)];done))):p:=h
theorem E_ {p:Prop} (h:p:=by clear S;(first|(rw [oF (.inl (by assumption))];done)|(rw [oF (.inr (by assumption))];done)|(rw [qk (by assumption) (by assumption)];done))):p:=h
theorem Z2 (w0:World) (h:ah) (ai:b_) (aX:bQ w0 h ai) (m:Int) (g:Int):Calls Tryz.prog 7 [GT.val h ai,aa m,aa g].toArray w0 (o4 ab w0 ((dN h m g).1:ah) ((dN h m g).2:Bool)):=by
 refine Calls.run ab Tryz.func7 ?_
 intro ac β S
 have lZ:h.mem.length<=4194304:=ae.le (bu.mem (d:=h) aX)
 have l0:h.I.length<=4194304:=ae.le (bu.I (d:=h) aX)
 have lX:h.buf.length<=4194304:=ae.le (bu.buf (d:=h) aX)
 have lY:h.ag.length<=4194304:=ae.le (bu.ag (d:=h) aX)
 refine S.go 10 .nil fun ac w β S=>S.cJ (r:=h) (d:=11) (Qj w h ai (S.rd (S.arg aX))) fun ac w N af br S up aA d4=>?_
 clear up d4
 obtain⟨dU,e7,eh,e6,bL,bF,bA,ba,_,_,_,_,d17,d18,d19,d20,d21,d22⟩:=jR aA
 refine S.bd 13 (.cons (aE fun w hw=>aas w h af (bJ (show GT.rd b6 _ _ h af from⟨bL.ak,bF.ak,bA.ak,ba.ak⟩) hw) m g) .nil) (!(mr h m g)) (fun ac w β r9 S=>?_) (fun ac w β r9 S=>?_)
 ·have gR:=cm r9
  refine S.bo 9 .nil [GT.val h af,B false] fun ac w β S=>?_
  have dm:=fs (x:=h) (p:=af) bL bF bA ba d17 d18 d19 d20 d21 d22
  exact gb (p':=()) S (show(dN h m g).1=h from E9) (show(dN h m g).2=false from E_) rfl rfl dm trivial
 have gS:=b9 r9
 have tw:=NU gS
 have XQ:=uz (el (el h.I m.toNat).U g.toNat)
 refine S.aI 38 (.cons (cq bF.ak m Tryz.underlying28) (.cons (cA bF.ak 71 m.toNat 3 (R (el h.I m.toNat).U.length (af.I.2 m.toNat).U.1)) (.cons (cq (aU.U (d:=(el h.I m.toNat)) (ae.el bF.ak m.toNat (by omega))) g Tryz.underlying71) (.cons (dz (aU.U (d:=(el h.I m.toNat)) (ae.el bF.ak m.toNat (by omega))) 70 g.toNat) (.cons (aE fun w hw=>HP w (el (el h.I m.toNat).U g.toNat) ((af.I.2 m.toNat).U.2 g.toNat) (bJ (ae.el (aU.U (d:=(el h.I m.toNat)) (ae.el bF.ak m.toNat (by omega))) g.toNat (by omega)) hw)) .nil))))) ((bY (el (el h.I m.toNat).U g.toNat))==0) (fun ac w β jf nW S=>?_) (fun ac w β jf nW S=>?_)
 ·refine S.bo 9 .nil [GT.val h af,B false] fun ac w β S=>?_
  have l7:=fs (x:=h) (p:=af) bL bF bA ba d17 d18 d19 d20 d21 d22
  exact gb (p':=()) S (show(dN h m g).1=h from E9) (show(dN h m g).2=false from E_) rfl rfl l7 trivial
 refine S.aI 7 .nil ((bY (el (el h.I m.toNat).U g.toNat))==1) (fun ac w β ps Ar S=>?_) (fun ac w β ps Ar S=>?_)
 ·refine S.go 1 .nil fun ac w β S=>?_
  refine dI ?_
  refine S.dR (f:=11) 10 (by kernel_rfl) (by kernel_rfl) fun w S=>?_
  refine S.hm 3 [0,1,2,3,4,5,6,7] [] [(46,.v (R (el h.I m.toNat).U.length (af.I.2 m.toNat).U.1)),(47,.v (aa g)),(48,.v (GT.val (el (el h.I m.toNat).U g.toNat) ((af.I.2 m.toNat).U.2 g.toNat)))] (.cons (cq bF.ak m Tryz.underlying28) (.cons (cA bF.ak 71 m.toNat 3 (R (el h.I m.toNat).U.length (af.I.2 m.toNat).U.1)) .nil)) fun ac S=>?_
  refine ar.one (i:=8) (by kernel_rfl) ?_
  refine id (S.dB 49 (Z5 w (el (el h.I m.toNat).U g.toNat) ((af.I.2 m.toNat).U.2 g.toNat) (S.rd (ae.el (aU.U (d:=(el h.I m.toNat)) (ae.el bF.ak m.toNat (by omega))) g.toNat (by omega)))) fun ac w N jx mg S up e3 d37=>?_)
  refine ar.next S up (by kernel_rfl) ?_
  have d38:=J.w d37 bL.sub
  have d39:=J.w d37 bF.sub
  have d40:=J.w d37 bA.sub
  have d41:=J.w d37 ba.sub
  replace bL:=bL.up up
  replace bF:=bF.up up
  replace bA:=bA.up up
  replace ba:=ba.up up
  clear up d37
  refine S.a9 9 [9] [] [(50,.v (bh (af.I.2 m.toNat).U.1.b ((af.I.2 m.toNat).U.1.off+g.toNat*15)))] (.cons (cq (aU.U (d:=(el h.I m.toNat)) (ae.el bF.ak m.toNat (by omega))) g Tryz.underlying71) .nil) fun ac S=>?_
  refine ar.one (i:=10) (by kernel_rfl) ?_
  obtain⟨zA,k7,ur,O1⟩:=pk bF (k:=m.toNat) (show m.toNat<h.I.length by omega)
  have agr:=ae.le k7.ak
  have ahq:=k7.sub
  refine id (S.kU (α:=ax) k7 (t:=70) (k:=g.toNat) (off:=(af.I.2 m.toNat).U.1.off+g.toNat*15) e3 (J.symm (J.symm (J.part d39 ur))) fun w N Oy F9 S up tX d51 akg Uw=>?_)
  refine ar.last (by kernel_rfl) ?_
  have d54:=d51 _ (J.symm (J.part (J.symm d17) ur)) d38 bL.sub
  have d55:=d51 _ (J.symm (J.part d20 ur)) d40 bA.sub
  have d56:=d51 _ (J.symm (J.part d21 ur)) d41 ba.sub
  replace bL:=bL.bk (J.symm (J.part (J.symm d17) ur)) up
  replace bA:=bA.bk (J.symm (J.part d20 ur)) up
  replace ba:=ba.bk (J.symm (J.part d21 ur)) up
  clear d51 k7
  obtain⟨nu,eB,am5⟩:=O1 _ _ _ _ _ mg up tX akg d39 (by show [R _ _]=[R _ _];rw [List.length_set]) (fun b h=>Uw b (ahq b h))
  clear up tX Uw
  have Ua:(h.I.set m.toNat ({el h.I m.toNat with U:=((el h.I m.toNat).U.set g.toNat (jt (el (el h.I m.toNat).U g.toNat)))})).length=h.I.length:=List.length_set
  replace S:=S.z (σ':=⟨[(3,.p 0 0),(6,.p 1 0),(49,.v (GT.val (jt (el (el h.I m.toNat).U g.toNat)) jx)),(50,.v (bh (af.I.2 m.toNat).U.1.b ((af.I.2 m.toNat).U.1.off+g.toNat*15)))],[[R h.mem.length af.mem.1,R h.I.length af.I.1,R h.buf.length af.buf.1,R h.ag.length af.ag.1],cg ah,GT.cells (el (el h.I m.toNat).U g.toNat) ((af.I.2 m.toNat).U.2 g.toNat)]⟩)
  replace S:=S.cast (σ':=⟨[(3,.p 0 0),(6,.p 1 0),(49,.v (GT.val (jt (el (el h.I m.toNat).U g.toNat)) jx)),(50,.v (bh (af.I.2 m.toNat).U.1.b ((af.I.2 m.toNat).U.1.off+g.toNat*15)))],[[R h.mem.length af.mem.1,R (h.I.set m.toNat ({el h.I m.toNat with U:=((el h.I m.toNat).U.set g.toNat (jt (el (el h.I m.toNat).U g.toNat)))})).length af.I.1,R h.buf.length af.buf.1,R h.ag.length af.ag.1],cg ah,GT.cells (el (el h.I m.toNat).U g.toNat) ((af.I.2 m.toNat).U.2 g.toNat)]⟩) (by rw [show(h.I.set m.toNat ({el h.I m.toNat with U:=((el h.I m.toNat).U.set g.toNat (jt (el (el h.I m.toNat).U g.toNat)))})).length=h.I.length by omega])
  refine ar.done (by kernel_rfl) ?_ _
  refine S.ex fun S=>?_
  refine S.bo 10 .nil [GT.val (⟨h.mem,(h.I.set m.toNat ({el h.I m.toNat with U:=((el h.I m.toNat).U.set g.toNat (jt (el (el h.I m.toNat).U g.toNat)))})),h.buf,h.ag⟩:ah) (⟨af.mem,(af.I.1,nu),af.buf,af.ag⟩:b_),B true] fun ac w β S=>?_
  have eF:=fs (x:=(⟨h.mem,(h.I.set m.toNat ({el h.I m.toNat with U:=((el h.I m.toNat).U.set g.toNat (jt (el (el h.I m.toNat).U g.toNat)))})),h.buf,h.ag⟩:ah)) (p:=(⟨af.mem,(af.I.1,nu),af.buf,af.ag⟩:b_)) bL eB bA ba (J.symm (J.or (J.symm d17) (J.symm d54))) d18 d19 (J.symm (J.symm (J.or d20 (J.symm d55)))) (J.symm (J.symm (J.or d21 (J.symm d56)))) d22
  exact gb (p':=()) S (show(dN h m g).1=(⟨h.mem,(h.I.set m.toNat ({el h.I m.toNat with U:=((el h.I m.toNat).U.set g.toNat (jt (el (el h.I m.toNat).U g.toNat)))})),h.buf,h.ag⟩:ah) from E9) (show(dN h m g).2=true from E_) rfl rfl eF trivial
 refine S.aI 7 .nil ((bY (el (el h.I m.toNat).U g.toNat))==2) (fun ac w β vl Eh S=>?_) (fun ac w β vl Eh S=>?_)
 ·refine S.go 1 .nil fun ac w β S=>?_
  refine dI ?_
  refine S.dR (f:=11) 10 (by kernel_rfl) (by kernel_rfl) fun w S=>?_
  refine S.hm 3 [0,1,2,3,4,5,6,7] [] [(58,.v (R (el h.I m.toNat).U.length (af.I.2 m.toNat).U.1)),(59,.v (aa g)),(60,.v (GT.val (el (el h.I m.toNat).U g.toNat) ((af.I.2 m.toNat).U.2 g.toNat)))] (.cons (cq bF.ak m Tryz.underlying28) (.cons (cA bF.ak 71 m.toNat 3 (R (el h.I m.toNat).U.length (af.I.2 m.toNat).U.1)) .nil)) fun ac S=>?_
  refine ar.one (i:=8) (by kernel_rfl) ?_
  refine id (S.dB 61 (aab w (el (el h.I m.toNat).U g.toNat) ((af.I.2 m.toNat).U.2 g.toNat) (S.rd (ae.el (aU.U (d:=(el h.I m.toNat)) (ae.el bF.ak m.toNat (by omega))) g.toNat (by omega)))) fun ac w N Cl s6 S up ha d67=>?_)
  refine ar.next S up (by kernel_rfl) ?_
  have d68:=J.w d67 bL.sub
  have d69:=J.w d67 bF.sub
  have d70:=J.w d67 bA.sub
  have d71:=J.w d67 ba.sub
  replace bL:=bL.up up
  replace bF:=bF.up up
  replace bA:=bA.up up
  replace ba:=ba.up up
  clear up d67
  refine S.a9 9 [9] [] [(62,.v (bh (af.I.2 m.toNat).U.1.b ((af.I.2 m.toNat).U.1.off+g.toNat*15)))] (.cons (cq (aU.U (d:=(el h.I m.toNat)) (ae.el bF.ak m.toNat (by omega))) g Tryz.underlying71) .nil) fun ac S=>?_
  refine ar.one (i:=10) (by kernel_rfl) ?_
  obtain⟨o2,hJ,sS,X7⟩:=pk bF (k:=m.toNat) (show m.toNat<h.I.length by omega)
  have agw:=ae.le hJ.ak
  have ahv:=hJ.sub
  refine id (S.kU (α:=ax) hJ (t:=70) (k:=g.toNat) (off:=(af.I.2 m.toNat).U.1.off+g.toNat*15) ha (J.symm (J.symm (J.part d69 sS))) fun w N xn uk S up l9 d81 NM UA=>?_)
  refine ar.last (by kernel_rfl) ?_
  have d84:=d81 _ (J.symm (J.part (J.symm d17) sS)) d68 bL.sub
  have d85:=d81 _ (J.symm (J.part d20 sS)) d70 bA.sub
  have d86:=d81 _ (J.symm (J.part d21 sS)) d71 ba.sub
  replace bL:=bL.bk (J.symm (J.part (J.symm d17) sS)) up
  replace bA:=bA.bk (J.symm (J.part d20 sS)) up
  replace ba:=ba.bk (J.symm (J.part d21 sS)) up
  clear d81 hJ
  obtain⟨Vp,Mk,am6⟩:=X7 _ _ _ _ _ s6 up l9 NM d69 (by show [R _ _]=[R _ _];rw [List.length_set]) (fun b h=>UA b (ahv b h))
  clear up l9 UA
  have aqd:(h.I.set m.toNat ({el h.I m.toNat with U:=((el h.I m.toNat).U.set g.toNat (gx (el (el h.I m.toNat).U g.toNat)))})).length=h.I.length:=List.length_set
  replace S:=S.z (σ':=⟨[(3,.p 0 0),(6,.p 1 0),(61,.v (GT.val (gx (el (el h.I m.toNat).U g.toNat)) Cl)),(62,.v (bh (af.I.2 m.toNat).U.1.b ((af.I.2 m.toNat).U.1.off+g.toNat*15)))],[[R h.mem.length af.mem.1,R h.I.length af.I.1,R h.buf.length af.buf.1,R h.ag.length af.ag.1],cg ah,GT.cells (el (el h.I m.toNat).U g.toNat) ((af.I.2 m.toNat).U.2 g.toNat)]⟩)
  replace S:=S.cast (σ':=⟨[(3,.p 0 0),(6,.p 1 0),(61,.v (GT.val (gx (el (el h.I m.toNat).U g.toNat)) Cl)),(62,.v (bh (af.I.2 m.toNat).U.1.b ((af.I.2 m.toNat).U.1.off+g.toNat*15)))],[[R h.mem.length af.mem.1,R (h.I.set m.toNat ({el h.I m.toNat with U:=((el h.I m.toNat).U.set g.toNat (gx (el (el h.I m.toNat).U g.toNat)))})).length af.I.1,R h.buf.length af.buf.1,R h.ag.length af.ag.1],cg ah,GT.cells (el (el h.I m.toNat).U g.toNat) ((af.I.2 m.toNat).U.2 g.toNat)]⟩) (by rw [show(h.I.set m.toNat ({el h.I m.toNat with U:=((el h.I m.toNat).U.set g.toNat (gx (el (el h.I m.toNat).U g.toNat)))})).length=h.I.length by omega])
  refine ar.done (by kernel_rfl) ?_ _
  refine S.ex fun S=>?_
  refine S.bo 10 .nil [GT.val (⟨h.mem,(h.I.set m.toNat ({el h.I m.toNat with U:=((el h.I m.toNat).U.set g.toNat (gx (el (el h.I m.toNat).U g.toNat)))})),h.buf,h.ag⟩:ah) (⟨af.mem,(af.I.1,Vp),af.buf,af.ag⟩:b_),B true] fun ac w β S=>?_
  have nn:=fs (x:=(⟨h.mem,(h.I.set m.toNat ({el h.I m.toNat with U:=((el h.I m.toNat).U.set g.toNat (gx (el (el h.I m.toNat).U g.toNat)))})),h.buf,h.ag⟩:ah)) (p:=(⟨af.mem,(af.I.1,Vp),af.buf,af.ag⟩:b_)) bL Mk bA ba (J.symm (J.or (J.symm d17) (J.symm d84))) d18 d19 (J.symm (J.symm (J.or d20 (J.symm d85)))) (J.symm (J.symm (J.or d21 (J.symm d86)))) d22
  exact gb (p':=()) S (show(dN h m g).1=(⟨h.mem,(h.I.set m.toNat ({el h.I m.toNat with U:=((el h.I m.toNat).U.set g.toNat (gx (el (el h.I m.toNat).U g.toNat)))})),h.buf,h.ag⟩:ah) from E9) (show(dN h m g).2=true from E_) rfl rfl nn trivial
 refine S.go 8 .nil fun ac w β S=>?_
 refine S.p5 ⟨[(1,.v (aa m)),(2,.v (aa g)),(3,.p 0 0),(6,.p 1 0),(8,.p 2 0),(9,.v (aa (bY (el (el h.I m.toNat).U g.toNat)))),(63,.v (B (((bY (el (el h.I m.toNat).U g.toNat))==3)||((bY (el (el h.I m.toNat).U g.toNat))==4))))],[[R h.mem.length af.mem.1,R h.I.length af.I.1,R h.buf.length af.buf.1,R h.ag.length af.ag.1],cg ah,GT.cells (el (el h.I m.toNat).U g.toNat) ((af.I.2 m.toNat).U.2 g.toNat)]⟩ ?_ ?_
 ·clear S;intro S
  refine S.aI 0 .nil ((bY (el (el h.I m.toNat).U g.toNat))==3) (fun ac w β Jj Ei S=>?_) (fun ac w β Jj Ei S=>?_)
  ·exact S.dG 2 .nil fun ac w β S=>⟨rfl,_,by rw [Jj];exact S.z⟩
  exact S.dG 5 .nil fun ac w β S=>⟨rfl,_,by rw [Jj];exact S.z⟩
 clear S;intro ac w β S
 refine S.bd 1 .nil (((bY (el (el h.I m.toNat).U g.toNat))==3)||((bY (el (el h.I m.toNat).U g.toNat))==4)) (fun ac w β tB S=>?_) (fun ac w β tB S=>?_)
 ·have acU:=D2 tB
  have gM:=fs (x:=h) (p:=af) bL bF bA ba d17 d18 d19 d20 d21 d22
  obtain⟨av,hq⟩:∃z,z=(mu h m g (el (el h.I m.toNat).U g.toNat) ((bY (el (el h.I m.toNat).U g.toNat))==4)):=⟨_,rfl⟩
  refine S.go 8 .nil fun ac w β S=>S.OE (d:=72) gM hq (aat w h af (j8 [dU,e7,eh,e6]) (S.fP gM) (fun b hb=>(S.sep b (gM.sub b hb)).1) m g ((bY (el (el h.I m.toNat).U g.toNat))==4) (by(first|assumption|omega)) (by(first|assumption|omega))) fun ac w N gV gg S up mK d100=>?_
  clear up d100 gM
  obtain⟨jy,iQ,iu,WE,oM,n0,BM,qt,_,_,_,_,d113,d114,d115,d116,d117,d118⟩:=jR mK
  refine S.bo 12 .nil [GT.val av gV,B true] fun ac w β S=>?_
  have pG:=fs (x:=av) (p:=gV) oM n0 BM qt d113 d114 d115 d116 d117 d118
  exact gb (p':=()) S (show(dN h m g).1=av from TV) (show(dN h m g).2=true from T6) rfl rfl pG trivial
 obtain⟨ac_,ada⟩:=n4 tB
 have an9:¬((bY (el (el h.I m.toNat).U g.toNat))=3):=ne_of_beq_false ac_
 have Rv:¬((bY (el (el h.I m.toNat).U g.toNat))=4):=ne_of_beq_false ada
 have rj:=fs (x:=h) (p:=af) bL bF bA ba d17 d18 d19 d20 d21 d22
 obtain⟨av,hq⟩:∃z,z=(tn h m (ju (el h.I m.toNat) g (el (el h.I m.toNat).U g.toNat) (bY (el (el h.I m.toNat).U g.toNat)))):=⟨_,rfl⟩
 refine S.go 7 .nil fun ac w β S=>S.OE (d:=35) rj hq (aau w h af (j8 [dU,e7,eh,e6]) (S.fP rj) (fun b hb=>(S.sep b (rj.sub b hb)).1) m g (bY (el (el h.I m.toNat).U g.toNat)) (by(first|assumption|omega)) (by(first|assumption|omega))) fun ac w N F3 Og S up wA d128=>?_
 clear up d128 rj
 obtain⟨zx,Oh,alI,alL,mJ,BO,LH,jN,_,_,_,_,d141,d142,d143,d144,d145,d146⟩:=jR wA
 refine S.bo 12 .nil [GT.val av F3,B true] fun ac w β S=>?_
 have rk:=fs (x:=av) (p:=F3) mJ BO LH jN d141 d142 d143 d144 d145 d146
 exact gb (p':=()) S (show(dN h m g).1=av from TV) (show(dN h m g).2=true from T6) rfl rfl rk trivial
theorem Z3 (w0:World) (h:ah) (ai:b_) (aX:bQ w0 h ai) (m:Int) (order:List Int) (ud:aD Int) (wa:bQ w0 order ud):Calls Tryz.prog 13 [GT.val h ai,aa m,R order.length ud.1].toArray w0 (o4 ab w0 ((ef h m order).1:ah) ((ef h m order).2:List Bool)):=by
 refine Calls.run ab Tryz.func13 ?_
 intro ac β S
 have lZ:h.mem.length<=4194304:=ae.le (bu.mem (d:=h) aX)
 have l0:h.I.length<=4194304:=ae.le (bu.I (d:=h) aX)
 have lX:h.buf.length<=4194304:=ae.le (bu.buf (d:=h) aX)
 have lY:h.ag.length<=4194304:=ae.le (bu.ag (d:=h) aX)
 have ae6:order.length<=4194304:=ae.le wa
 refine S.go 10 .nil fun ac w β S=>S.cJ (r:=h) (d:=12) (Qj w h ai (S.rd (S.arg aX))) fun ac w N af br S up aA d4=>?_
 clear up d4
 refine S.go 5 .nil fun ac w β S=>S.gE (α:=Bool) (d:=13) fun ac w N bM cT S up ao d8=>?_
 have d9:=J.w d8 aA.sub
 replace aA:=aA.up up
 clear up d8
 refine S.go 10 .nil fun ac w β S=>?_
 refine c8 (fun a4 ac w=>∃(k:Nat) (Y:ah) (acc:List Bool) (eM:_) (eh:_) (j5:_) (e6:_) (u:_) (N:_) (β:_),a4=order.length-k/\(k<=order.length)/\(acc.length=k)/\((Y,acc)=ef h m (order.take k))/\aj Tryz.prog Tryz.f13.ntmps w0 ab u N β ⟨[(1,.v (aa m)),(2,.v (R order.length ud.1)),(3,.p 0 0),(6,.p 1 0),(8,.v (R acc.length eM.1)),(9,.v (aa (k:Int)))],[GT.cells Y j5,cg ah]⟩ ac w/\ad w0 ab u N eh acc eM/\ad w0 ab u N e6 Y j5/\J eh e6) _ ⟨0,h,([]:List Bool),bM,cT,af,br,_,_,_,rfl,cw,(by rfl),(by rfl),S.z,ao,aA,(J.symm d9)⟩ ?_
 clear S aA ao
 rintro f17 a4 JJ ac w ⟨k,Y,acc,eM,eh,j5,e6,u,N,β,rfl,hk,hl,bc,S,bA,ba,d16⟩
 refine S.rs fun S=>?_
 refine S.aI 9 .nil (decide ((k:Int)<(order.length:Int))) (fun ac w β hU m9 S=>?_) (fun ac w β hU m9 S=>?_)
 ·refine S.go 11 .nil fun ac w β S=>?_
  refine dI ?_
  let zv:b3:=⟨[(1,.v (aa m)),(2,.v (R order.length ud.1)),(3,.p 0 0),(6,.p 1 0),(8,.v (R acc.length eM.1)),(9,.v (aa (k:Int)))],[GT.cells Y j5,cg ah]⟩
  obtain⟨bw,bt,bP,S,bA,ba⟩:∃bw bt bP,aj Tryz.prog Tryz.f13.ntmps w0 ab bw bt bP zv ac w/\ad w0 ab bw bt eh acc eM/\ad w0 ab bw bt e6 Y j5:=⟨_,_,_,S.z,bA,ba⟩
  refine me (fun ac w=>∃n8 nE u N β,aj Tryz.prog Tryz.f13.ntmps w0 ab u N β (zv.dl [] [(10,.v (B (dN Y m (el order k)).2))] 2 [(0,GT.cells (dN Y m (el order k)).1 n8)]) ac w/\ad w0 ab u N eh acc eM/\ad w0 ab u N nE (dN Y m (el order k)).1 n8/\J eh nE) ?_ ?_
  ·refine S.dR (f:=12) 10 (by kernel_rfl) (by kernel_rfl) fun w S=>?_
   refine S.hm 6 [0,1,2,3,4,5] [] [(21,.v (GT.val Y j5)),(22,.v (aa m)),(26,.v (aa (el order k)))] (.cons (b5 (S.arg wa) k Tryz.underlying38) (.cons (cj (S.arg wa) 3 k) .nil)) fun ac S=>?_
   refine ar.mH fun W aG=>?_
   refine ar.mj (l':=cp 12 [0,1,2,3,4,5]) (by kernel_rfl) ?_
   have AW ac w n8 nE u N β (S:aj Tryz.prog Tryz.f13.ntmps w0 ab u N β (zv.dl [] [(10,.v (B (dN Y m (el order k)).2))] 2 [(0,GT.cells (dN Y m (el order k)).1 n8)]) ac w) (bA:ad w0 ab u N eh acc eM) (rl:ad w0 ab u N nE (dN Y m (el order k)).1 n8) (d56:J eh nE):W 0 (cp 12 [0,1,2,3,4,5,6,7,8,9,10,11]) ac w:=by
    exact mL aG ⟨rfl,n8,nE,_,_,_,S.z,bA,rl,d56⟩
   have aee ac w F9 Dc u N β (S:aj Tryz.prog Tryz.f13.ntmps w0 ab u N β (zv.dl [] [(28,.v (GT.val (dN Y m (el order k)).1 F9)),(29,.v (B (dN Y m (el order k)).2))] 2 []) ac w) (bA:ad w0 ab u N eh acc eM) (ba:ad w0 ab u N e6 Y j5) (ht:ad w0 ab u N Dc (dN Y m (el order k)).1 F9) (d58:J eh Dc) (d59:J e6 Dc) (al:d_ bt bw N u) (aP:cR zv.aM.length bP β):W 2 (cp 12 [0,1,2,3,4,5,6,7,8,9]) ac w:=by
    exact eo aG 10 (S.wl aG [11] .nil fun _ _ _ S=>AW _ _ F9 Dc _ _ _ S bA ht d58)
   have al:d_ bt bw bt bw:=fun b h=>⟨h,rfl⟩
   have aP:cR zv.aM.length bP bP:=fun _ _=>rfl
   refine eo aG 6 ?_
   refine id (S.call2 (r:=(dN Y m (el order k)).1) (r':=(dN Y m (el order k)).2) (d:=27) (Z2 w Y j5 (S.rd ba.ak) m (el order k)) (by kernel_rfl) rfl fun ac w N wN mO kZ Dd S up B5 sG d66 d67 d68=>?_)
   have Sv:=fun b h=>(⟨(up b (al b h).1).1,(up b (al b h).1).2.trans (al b h).2⟩:_/\_)
   refine ar.de S Sv aP fun bj=>?_
   have d72:=J.w d66 bA.sub
   have d73:=J.w d66 ba.sub
   replace bA:=bA.up up
   replace ba:=ba.up up
   clear up d66
   clear d67
   exact S.cX aG [7,8,9] bj fun _ S=>aee _ _ wN kZ _ _ _ S bA ba B5 d72 d73 Sv aP
  clear S bA ba
  rintro ac w ⟨n8,nE,u,N,β,S,bA,rl,d74⟩
  refine S.ex fun S=>?_
  refine S.go 4 .nil fun ac w β S=>S.h3 (α:=Bool) (x:=(dN Y m (el order k)).2) (p:=()) (F:=ab) trivial (fun b h=>False.elim h) (fun b h=>False.elim h) (d:=32) fun ac w N Cm xm S up Mj d78=>?_
  replace bA:=bA.up up
  replace rl:=rl.up up
  clear up d78
  refine S.kq (α:=Bool) bA Mj.ak (fun _ _ h=>h) (by':=1) (d:=33) (lx:=acc.length) (ly:=1) rfl rfl (show _<=4194304 by simp only [List.length_append,List.length_cons,List.length_nil];omega) fun ac w N Cn rO S up nm d84=>?_
  have d85:=d84 _ (J.symm d74) rl.sub
  replace rl:=rl.bk (J.symm d74) up
  clear up d84
  refine S.ge 9 (.cons (cc (k:Int) 1) .nil) f17 fun ac w β S=>JJ.of (order.length-(k+1)) _ _ (by omega) ⟨k+1,(dN Y m (el order k)).1,(acc++[(dN Y m (el order k)).2]),Cn,rO,n8,nE,_,_,_,rfl,?_,?_,?_,S.z,nm,rl,(J.symm d85)⟩
  ·exact cK
  ·clear S;(simp;omega)
  ·clear S;exact Wa (by omega) bc
 refine S.bo 15 .nil [GT.val Y j5,R acc.length eM.1] fun ac w β S=>?_
 exact VT S (show(ef h m order).1=Y by clear S;(rw [Gs (by omega) bc];done)) (show(ef h m order).2=acc by clear S;(rw [Gs (by omega) bc];done)) rfl rfl ba bA (J.symm d16)
theorem xB (w0:World) (l:List Int) (pl:aD Int) (hl:bQ w0 l pl):Calls Tryz.prog 238 [R l.length pl.1].toArray w0 (dw ab w0 (l:List Int)):=by
 refine Calls.run ab Tryz.func238 ?_
 intro ac β S
 have yB:l.length<=4194304:=ae.le hl
 refine S.go 7 .nil fun ac w β S=>S.gE (α:=Int) (d:=3) fun ac w N af br S up aA d4=>?_
 clear up d4
 have uR:l.length<=4194304:=ae.le (S.arg hl)
 refine S.go 1 .nil fun ac w β S=>S.lG (α:=Int) aA (S.arg hl) (fun _ _ h=>h) (by':=8) (d:=5) (lx:=0) (ly:=l.length) rfl fun ac w N bM cT S up ao d8=>?_
 clear up d8
 refine S.bo 4 .nil [R l.length bM.1] fun ac w β S=>?_
 exact cy S (show l=l by clear S;simp) rfl ao
theorem pd (w0:World) (l:List (List Int)) (pl:aD (List Int)) (hl:bQ w0 l pl):Calls Tryz.prog 126 [R l.length pl.1].toArray w0 (dw ab w0 (l:List (List Int))):=by
 refine Calls.run ab Tryz.func126 ?_
 intro ac β S
 have yB:l.length<=4194304:=ae.le hl
 refine S.go 7 .nil fun ac w β S=>S.gE (α:=List Int) (d:=6) fun ac w N af br S up aA d4=>?_
 clear up d4
 refine S.go 12 .nil fun ac w β S=>?_
 refine c8 (fun a4 ac w=>∃(k:Nat) (acc:List (List Int)) (bM:_) (cT:_) (u:_) (N:_) (β:_),a4=l.length-k/\(k<=l.length)/\(acc=l.take k)/\aj Tryz.prog Tryz.f126.ntmps w0 ab u N β ⟨[(3,.v (R acc.length bM.1)),(7,.v (R l.length pl.1)),(8,.v (aa (l.length:Int))),(9,.v (aa (k:Int)))],[]⟩ ac w/\ad w0 ab u N cT acc bM) _ ⟨0,([]:List (List Int)),af,br,_,_,_,rfl,cw,(by simp),S.z,aA⟩ ?_
 clear S aA
 rintro f8 a4 e0 ac w ⟨k,acc,bM,cT,u,N,β,rfl,hk,bz,S,ao⟩
 refine S.rs fun S=>?_
 have gI:acc.length=k:=by rw [bz];simp;omega
 refine S.aI 6 .nil (decide ((k:Int)<(l.length:Int))) (fun ac w β c2 eb S=>?_) (fun ac w β c2 eb S=>?_)
 ·refine S.go 15 (.cons (b5 (S.arg hl) k Tryz.underlying22) (.cons (cj (S.arg hl) 38 k) .nil)) fun ac w β S=>S.cJ (r:=(el l k)) (d:=15) (xB w (el l k) (pl.2 k) (S.rd (ae.el (S.arg hl) k (by omega)))) fun ac w N jP gf S up c3 d15=>?_
  have d16:=J.w d15 ao.sub
  replace ao:=ao.up up
  clear up d15
  refine S.h3 (α:=List Int) (x:=(el l k)) (p:=jP) c3.own c3.sub c3.dM (d:=16) fun ac w N wL ka S up eA d20=>?_
  have d21:=d20 _ d16 ao.sub
  replace ao:=ao.up up
  clear up d20
  refine S.w_ (α:=List Int) ao eA d21 (by':=24) (d:=17) (lx:=acc.length) (ly:=1) rfl rfl (show _<=4194304 by simp only [List.length_append,List.length_cons,List.length_nil];omega) fun ac w N uf s4 S up j3 d25=>?_
  clear up d25
  refine S.ge 8 (.cons (cc (k:Int) 1) .nil) f8 fun ac w β S=>e0.of (l.length-(k+1)) _ _ (by omega) ⟨k+1,(acc++[(el l k)]),uf,s4,_,_,_,rfl,?_,?_,S.z,j3⟩
  ·exact cK
  ·clear S;(first|(rw [jb (by omega),bz];done)|(rw [jb (by omega),bz];simp;done))
 refine S.bo 13 .nil [R acc.length bM.1] fun ac w β S=>?_
 exact cy S (show l=acc by clear S;(rw [bz,ff (by omega)])) rfl ao
theorem DB (w0:World) (l:List aR) (pl:aD aR) (hl:bQ w0 l pl):Calls Tryz.prog 239 [R l.length pl.1].toArray w0 (dw ab w0 (l:List aR)):=by
 refine Calls.run ab Tryz.func239 ?_
 intro ac β S
 have yB:l.length<=4194304:=ae.le hl
 refine S.go 7 .nil fun ac w β S=>S.gE (α:=aR) (d:=3) fun ac w N af br S up aA d4=>?_
 clear up d4
 have uR:l.length<=4194304:=ae.le (S.arg hl)
 refine S.go 1 .nil fun ac w β S=>S.lG (α:=aR) aA (S.arg hl) (fun _ _ h=>h) (by':=16) (d:=5) (lx:=0) (ly:=l.length) rfl fun ac w N bM cT S up ao d8=>?_
 clear up d8
 refine S.bo 4 .nil [R l.length bM.1] fun ac w β S=>?_
 exact cy S (show l=l by clear S;simp) rfl ao
theorem Y0 (w0:World) (l:List da) (pl:aD da) (hl:bQ w0 l pl):Calls Tryz.prog 253 [R l.length pl.1].toArray w0 (dw ab w0 (l:List da)):=by
 refine Calls.run ab Tryz.func253 ?_
 intro ac β S
 have yB:l.length<=4194304:=ae.le hl
 refine S.go 7 .nil fun ac w β S=>S.gE (α:=da) (d:=3) fun ac w N af br S up aA d4=>?_
 clear up d4
 have uR:l.length<=4194304:=ae.le (S.arg hl)
 refine S.go 1 .nil fun ac w β S=>S.lG (α:=da) aA (S.arg hl) (fun _ _ h=>h) (by':=16) (d:=5) (lx:=0) (ly:=l.length) rfl fun ac w N bM cT S up ao d8=>?_
 clear up d8
 refine S.bo 4 .nil [R l.length bM.1] fun ac w β S=>?_
 exact cy S (show l=l by clear S;simp) rfl ao
theorem tc (w0:World) (g:ax) (bf:c5) (aJ:bQ w0 g bf):Calls Tryz.prog 136 [GT.val g bf].toArray w0 (dw ab w0 (g:ax)):=by
 refine Calls.run ab Tryz.func136 ?_
 intro ac β S
 have iE:g.prog.length<=4194304:=ae.le (az.prog (d:=g) aJ)
 have iG:g.written.length<=4194304:=ae.le (az.written (d:=g) aJ)
 have iD:g.live.length<=4194304:=ae.le (az.live (d:=g) aJ)
 have iF:g.seen.length<=4194304:=ae.le (az.seen (d:=g) aJ)
 refine S.go 10 .nil fun ac w β S=>S.cJ (r:=g.prog) (d:=5) (Y0 w g.prog bf.prog (S.rd (az.prog (d:=g) (S.arg aJ)))) fun ac w N af br S up aA d4=>?_
 clear up d4
 refine S.go 8 .nil fun ac w β S=>S.cJ (r:=g.written) (d:=9) (DB w g.written bf.written (S.rd (az.written (d:=g) (S.arg aJ)))) fun ac w N bM cT S up ao d8=>?_
 have d9:=J.w d8 aA.sub
 replace aA:=aA.up up
 clear up d8
 refine S.go 8 .nil fun ac w β S=>S.cJ (r:=g.live) (d:=13) (DB w g.live bf.live (S.rd (az.live (d:=g) (S.arg aJ)))) fun ac w N eM eh S up bA d13=>?_
 have d14:=J.w d13 aA.sub
 have d15:=J.w d13 ao.sub
 replace aA:=aA.up up
 replace ao:=ao.up up
 clear up d13
 refine S.go 8 .nil fun ac w β S=>S.cJ (r:=g.seen) (d:=17) (xB w g.seen bf.seen (S.rd (az.seen (d:=g) (S.arg aJ)))) fun ac w N cv cD S up e1 d19=>?_
 have d20:=J.w d19 aA.sub
 have d21:=J.w d19 ao.sub
 have d22:=J.w d19 bA.sub
 replace aA:=aA.up up
 replace ao:=ao.up up
 replace bA:=bA.up up
 clear up d19
 refine S.bo 11 .nil [GT.val (⟨g.prog,g.acc,g.aw,g.written,g.live,g.aN,g.aC,g.exit,g.halted,g.seen⟩:ax) (⟨af,bM,eM,cv⟩:c5)] fun ac w β S=>?_
 have bb:=hK (x:=(⟨g.prog,g.acc,g.aw,g.written,g.live,g.aN,g.aC,g.exit,g.halted,g.seen⟩:ax)) (p:=(⟨af,bM,eM,cv⟩:c5)) aA ao bA e1 d9 d14 d20 d15 d21 d22 (az.acc (d:=g) (S.arg aJ)) (az.aw (d:=g) (S.arg aJ)) (az.aN (d:=g) (S.arg aJ)) (az.aC (d:=g) (S.arg aJ)) (az.exit (d:=g) (S.arg aJ))
 exact cy S (show g=(⟨g.prog,g.acc,g.aw,g.written,g.live,g.aN,g.aC,g.exit,g.halted,g.seen⟩:ax) by clear S;(first|rfl|simp)) rfl bb
theorem PJ (w0:World) (l:List ax) (pl:aD ax) (hl:bQ w0 l pl):Calls Tryz.prog 240 [R l.length pl.1].toArray w0 (dw ab w0 (l:List ax)):=by
 refine Calls.run ab Tryz.func240 ?_
 intro ac β S
 have yB:l.length<=4194304:=ae.le hl
 refine S.go 7 .nil fun ac w β S=>S.gE (α:=ax) (d:=6) fun ac w N af br S up aA d4=>?_
 clear up d4
 refine S.go 12 .nil fun ac w β S=>?_
 refine c8 (fun a4 ac w=>∃(k:Nat) (acc:List ax) (bM:_) (cT:_) (u:_) (N:_) (β:_),a4=l.length-k/\(k<=l.length)/\(acc=l.take k)/\aj Tryz.prog Tryz.f240.ntmps w0 ab u N β ⟨[(3,.v (R acc.length bM.1)),(7,.v (R l.length pl.1)),(8,.v (aa (l.length:Int))),(9,.v (aa (k:Int)))],[]⟩ ac w/\ad w0 ab u N cT acc bM) _ ⟨0,([]:List ax),af,br,_,_,_,rfl,cw,(by simp),S.z,aA⟩ ?_
 clear S aA
 rintro f8 a4 e0 ac w ⟨k,acc,bM,cT,u,N,β,rfl,hk,bz,S,ao⟩
 refine S.rs fun S=>?_
 have gI:acc.length=k:=by rw [bz];simp;omega
 refine S.aI 6 .nil (decide ((k:Int)<(l.length:Int))) (fun ac w β c2 eb S=>?_) (fun ac w β c2 eb S=>?_)
 ·refine S.go 16 (.cons (b5 (S.arg hl) k Tryz.underlying71) (.cons (dz (S.arg hl) 70 k) .nil)) fun ac w β S=>S.cJ (r:=(el l k)) (d:=15) (tc w (el l k) (pl.2 k) (S.rd (ae.el (S.arg hl) k (by omega)))) fun ac w N jP gf S up c3 d15=>?_
  have d16:=J.w d15 ao.sub
  replace ao:=ao.up up
  clear up d15
  refine S.h3 (α:=ax) (x:=(el l k)) (p:=jP) c3.own c3.sub c3.dM (d:=16) fun ac w N wL ka S up eA d20=>?_
  have d21:=d20 _ d16 ao.sub
  replace ao:=ao.up up
  clear up d20
  refine S.w_ (α:=ax) ao eA d21 (by':=184) (d:=17) (lx:=acc.length) (ly:=1) rfl rfl (show _<=4194304 by simp only [List.length_append,List.length_cons,List.length_nil];omega) fun ac w N uf s4 S up j3 d25=>?_
  clear up d25
  refine S.ge 8 (.cons (cc (k:Int) 1) .nil) f8 fun ac w β S=>e0.of (l.length-(k+1)) _ _ (by omega) ⟨k+1,(acc++[(el l k)]),uf,s4,_,_,_,rfl,?_,?_,S.z,j3⟩
  ·exact cK
  ·clear S;(first|(rw [jb (by omega),bz];done)|(rw [jb (by omega),bz];simp;done))
 refine S.bo 13 .nil [R acc.length bM.1] fun ac w β S=>?_
 exact cy S (show l=acc by clear S;(rw [bz,ff (by omega)])) rfl ao
theorem DA (w0:World) (k:bS) (et:fx) (hk:bQ w0 k et):Calls Tryz.prog 241 [GT.val k et].toArray w0 (dw ab w0 (k:bS)):=by
 refine Calls.run ab Tryz.func241 ?_
 intro ac β S
 have q4:k.known.length<=4194304:=ae.le (ey.known (d:=k) hk)
 have q5:k.aZ.length<=4194304:=ae.le (ey.aZ (d:=k) hk)
 refine S.go 7 .nil fun ac w β S=>?_
 refine dI ?_
 refine S.dR (f:=9) 8 (by kernel_rfl) (by kernel_rfl) fun w S=>?_
 refine S.hm 5 [1,2,4,5] [] [(5,.v (R k.known.length et.known.1)),(8,.v (R k.aZ.length et.aZ.1))] .nil fun ac S=>?_
 refine ar.one (i:=0) (by kernel_rfl) ?_
 refine id (S.fH (α:=Bool) (d:=3) (by kernel_rfl) fun ac w N af br S up aA d4=>?_)
 have A6:=fun b h=>(⟨(up b h).1,(up b h).2,d4 b h⟩:_/\_/\_)
 refine ar.keep S up (by kernel_rfl) ?_
 clear up d4
 refine ar.one (i:=3) (by kernel_rfl) ?_
 have Dn:k.known.length<=4194304:=ae.le (ey.known (d:=k) (S.arg hk))
 refine id (S.lK (α:=Bool) aA (ey.known (d:=k) (S.arg hk)) (fun _ _ h=>h) (by':=1) (d:=6) (lx:=0) (ly:=k.known.length) rfl fun ac w N jQ fa S up bO d9=>?_)
 have aex:=fun b h=>(⟨(up b (A6 b h).1 (A6 b h).2.2).1,(up b (A6 b h).1 (A6 b h).2.2).2.trans (A6 b h).2.1⟩:_/\_)
 refine ar.next S aex (by kernel_rfl) ?_
 clear up d9
 refine ar.one (i:=6) (by kernel_rfl) ?_
 refine id (S.dB 9 (DB w k.aZ et.aZ (S.rd (ey.aZ (d:=k) (S.arg hk)))) fun ac w N jP gf S up c3 d15=>?_)
 refine ar.next S up (by kernel_rfl) ?_
 have d16:=J.w d15 bO.sub
 replace bO:=bO.up up
 clear up d15
 refine S.a9 7 [7] [] [(10,.v (GT.val (⟨k.known,k.aZ⟩:bS) (⟨jQ,jP⟩:fx)))] (.cons (fY (s:=Instr.build 165 [(0,R k.known.length jQ.1),(1,R k.aZ.length jP.1)].toArray) (v:= .agg [R k.known.length jQ.1,R k.aZ.length jP.1].toArray) (fun w=>by kernel_rfl)) .nil) fun ac S=>?_
 refine S.c_ 8 [] [] 2 [(1,[R k.known.length jQ.1,R k.aZ.length jP.1])] .nil fun ac w β S=>?_
 refine ar.done (by kernel_rfl) ?_ _
 refine S.ex fun S=>?_
 refine S.bo 2 .nil [GT.val (⟨k.known,k.aZ⟩:bS) (⟨jQ,jP⟩:fx)] fun ac w β S=>?_
 have ev:=ma (x:=(⟨k.known,k.aZ⟩:bS)) (p:=(⟨jQ,jP⟩:fx)) bO c3 d16
 exact cy S (show k=(⟨k.known,k.aZ⟩:bS) by clear S;(first|rfl|simp)) rfl ev
theorem PK (w0:World) (m:aO) (pm:ft) (hm:bQ w0 m pm):Calls Tryz.prog 127 [GT.val m pm].toArray w0 (dw ab w0 (m:aO)):=by
 refine Calls.run ab Tryz.func127 ?_
 intro ac β S
 have J1:m.outer.length<=4194304:=ae.le (aU.outer (d:=m) hm)
 have J0:m.out.length<=4194304:=ae.le (aU.out (d:=m) hm)
 have JY:m.aT.length<=4194304:=ae.le (aU.aT (d:=m) hm)
 have JZ:m.U.length<=4194304:=ae.le (aU.U (d:=m) hm)
 have J2:m.outs.length<=4194304:=ae.le (aU.outs (d:=m) hm)
 have J3:m.tables.length<=4194304:=ae.le (aU.tables (d:=m) hm)
 refine S.go 10 .nil fun ac w β S=>S.cJ (r:=m.outer) (d:=8) (DB w m.outer pm.outer (S.rd (aU.outer (d:=m) (S.arg hm)))) fun ac w N af br S up aA d4=>?_
 clear up d4
 refine S.go 8 .nil fun ac w β S=>S.cJ (r:=m.out) (d:=12) (pd w m.out pm.out (S.rd (aU.out (d:=m) (S.arg hm)))) fun ac w N bM cT S up ao d8=>?_
 have d9:=J.w d8 aA.sub
 replace aA:=aA.up up
 clear up d8
 refine S.go 6 .nil fun ac w β S=>S.gE (α:=Bool) (d:=14) fun ac w N eM eh S up bA d13=>?_
 have d14:=J.w d13 aA.sub
 have d15:=J.w d13 ao.sub
 replace aA:=aA.up up
 replace ao:=ao.up up
 clear up d13
 have amH:m.aT.length<=4194304:=ae.le (aU.aT (d:=m) (S.arg hm))
 refine S.go 2 .nil fun ac w β S=>S.lG (α:=Bool) bA (aU.aT (d:=m) (S.arg hm)) (fun _ _ h=>h) (by':=1) (d:=17) (lx:=0) (ly:=m.aT.length) rfl fun ac w N cv cD S up e1 d19=>?_
 have d21:=d19 _ d14 aA.sub
 have d22:=d19 _ d15 ao.sub
 replace aA:=aA.bk d14 up
 replace ao:=ao.bk d15 up
 clear up d19
 refine S.go 8 .nil fun ac w β S=>S.cJ (r:=m.U) (d:=21) (PJ w m.U pm.U (S.rd (aU.U (d:=m) (S.arg hm)))) fun ac w N fe mf S up dm d26=>?_
 have d27:=J.w d26 aA.sub
 have d28:=J.w d26 ao.sub
 have d29:=J.w d26 e1.sub
 replace aA:=aA.up up
 replace ao:=ao.up up
 replace e1:=e1.up up
 clear up d26
 refine S.go 8 .nil fun ac w β S=>S.cJ (r:=m.outs) (d:=25) (xB w m.outs pm.outs (S.rd (aU.outs (d:=m) (S.arg hm)))) fun ac w N mN qI S up fZ d33=>?_
 have d34:=J.w d33 aA.sub
 have d35:=J.w d33 ao.sub
 have d36:=J.w d33 e1.sub
 have d37:=J.w d33 dm.sub
 replace aA:=aA.up up
 replace ao:=ao.up up
 replace e1:=e1.up up
 replace dm:=dm.up up
 clear up d33
 refine S.go 6 .nil fun ac w β S=>S.gE (α:=bS) (d:=27) fun ac w N lB xh S up kj d41=>?_
 have d42:=J.w d41 aA.sub
 have d43:=J.w d41 ao.sub
 have d44:=J.w d41 e1.sub
 have d45:=J.w d41 dm.sub
 have d46:=J.w d41 fZ.sub
 replace aA:=aA.up up
 replace ao:=ao.up up
 replace e1:=e1.up up
 replace dm:=dm.up up
 replace fZ:=fZ.up up
 clear up d41
 refine S.go 13 .nil fun ac w β S=>?_
 refine c8 (fun a4 ac w=>∃(k:Nat) (acc:List bS) (uj:_) (uI:_) (u:_) (N:_) (β:_),a4=m.tables.length-k/\(k<=m.tables.length)/\(acc=m.tables.take k)/\aj Tryz.prog Tryz.f127.ntmps w0 ab u N β ⟨[(1,.p 0 0),(2,.p 1 0),(3,.v (R acc.length uj.1)),(29,.v (R m.tables.length pm.tables.1)),(30,.v (aa (m.tables.length:Int))),(31,.v (aa (k:Int)))],[[R m.outer.length af.1,R m.out.length bM.1,R m.aT.length cv.1,R m.U.length fe.1,R m.outs.length mN.1,aa m.aC,aa m.aY,R m.tables.length pm.tables.1,aa m.owned],cg aO]⟩ ac w/\ad w0 ab u N uI acc uj/\ad w0 ab u N br m.outer af/\ad w0 ab u N cT m.out bM/\ad w0 ab u N cD m.aT cv/\ad w0 ab u N mf m.U fe/\ad w0 ab u N qI m.outs mN/\J uI br/\J uI cT/\J uI cD/\J uI mf/\J uI qI) _ ⟨0,([]:List bS),lB,xh,_,_,_,rfl,cw,(by simp),S.z,kj,aA,ao,e1,dm,fZ,(J.symm d42),(J.symm d43),(J.symm d44),(J.symm d45),(J.symm d46)⟩ ?_
 clear S e1 dm aA fZ kj ao
 rintro f55 a4 aeG ac w ⟨k,acc,uj,uI,u,N,β,rfl,hk,bz,S,ht,aA,ao,e1,dm,fZ,d50,d51,d52,d53,d54⟩
 refine S.rs fun S=>?_
 have gI:acc.length=k:=by rw [bz];simp;omega
 refine S.aI 6 .nil (decide ((k:Int)<(m.tables.length:Int))) (fun ac w β AA tx S=>?_) (fun ac w β AA tx S=>?_)
 ·refine S.go 16 (.cons (b5 (aU.tables (d:=m) (S.arg hm)) k Tryz.underlying72) (.cons (dz (aU.tables (d:=m) (S.arg hm)) 165 k) .nil)) fun ac w β S=>S.cJ (r:=(el m.tables k)) (d:=37) (DA w (el m.tables k) (pm.tables.2 k) (S.rd (ae.el (aU.tables (d:=m) (S.arg hm)) k (by omega)))) fun ac w N fX qM S up eF d62=>?_
  have d63:=J.w d62 ht.sub
  have d64:=J.w d62 aA.sub
  have d65:=J.w d62 ao.sub
  have d66:=J.w d62 e1.sub
  have d67:=J.w d62 dm.sub
  have d68:=J.w d62 fZ.sub
  replace ht:=ht.up up
  replace aA:=aA.up up
  replace ao:=ao.up up
  replace e1:=e1.up up
  replace dm:=dm.up up
  replace fZ:=fZ.up up
  clear up d62
  refine S.h3 (α:=bS) (x:=(el m.tables k)) (p:=fX) eF.own eF.sub eF.dM (d:=38) fun ac w N n9 o1 S up pI d72=>?_
  have d73:=d72 _ d63 ht.sub
  have d74:=d72 _ d64 aA.sub
  have d75:=d72 _ d65 ao.sub
  have d76:=d72 _ d66 e1.sub
  have d77:=d72 _ d67 dm.sub
  have d78:=d72 _ d68 fZ.sub
  replace ht:=ht.up up
  replace aA:=aA.up up
  replace ao:=ao.up up
  replace e1:=e1.up up
  replace dm:=dm.up up
  replace fZ:=fZ.up up
  clear up d72
  refine S.w_ (α:=bS) ht pI d73 (by':=48) (d:=39) (lx:=acc.length) (ly:=1) rfl rfl (show _<=4194304 by simp only [List.length_append,List.length_cons,List.length_nil];omega) fun ac w N VN zC S up n3 d82=>?_
  have d83:=d82 _ (J.symm d50) d74 aA.sub
  have d84:=d82 _ (J.symm d51) d75 ao.sub
  have d85:=d82 _ (J.symm d52) d76 e1.sub
  have d86:=d82 _ (J.symm d53) d77 dm.sub
  have d87:=d82 _ (J.symm d54) d78 fZ.sub
  replace aA:=aA.bk (J.symm d50) up
  replace ao:=ao.bk (J.symm d51) up
  replace e1:=e1.bk (J.symm d52) up
  replace dm:=dm.bk (J.symm d53) up
  replace fZ:=fZ.bk (J.symm d54) up
  clear up d82
  refine S.ge 8 (.cons (cc (k:Int) 1) .nil) f55 fun ac w β S=>aeG.of (m.tables.length-(k+1)) _ _ (by omega) ⟨k+1,(acc++[(el m.tables k)]),VN,zC,_,_,_,rfl,?_,?_,S.z,n3,aA,ao,e1,dm,fZ,(J.symm d83),(J.symm d84),(J.symm d85),(J.symm d86),(J.symm d87)⟩
  ·exact cK
  ·clear S;(first|(rw [jb (by omega),bz];done)|(rw [jb (by omega),bz];simp;done))
 refine S.bo 20 .nil [GT.val (⟨m.outer,m.out,m.aT,m.U,m.outs,m.aC,m.aY,acc,m.owned⟩:aO) (⟨af,bM,cv,fe,mN,uj⟩:ft)] fun ac w β S=>?_
 have Mk:=FO (x:=(⟨m.outer,m.out,m.aT,m.U,m.outs,m.aC,m.aY,acc,m.owned⟩:aO)) (p:=(⟨af,bM,cv,fe,mN,uj⟩:ft)) aA ao e1 dm fZ ht d9 d21 d27 d34 (J.symm d50) d22 d28 d35 (J.symm d51) d29 d36 (J.symm d52) d37 (J.symm d53) (J.symm d54) (aU.aC (d:=m) (S.arg hm)) (aU.aY (d:=m) (S.arg hm)) (aU.owned (d:=m) (S.arg hm))
 exact cy S (show m=(⟨m.outer,m.out,m.aT,m.U,m.outs,m.aC,m.aY,acc,m.owned⟩:aO) by clear S;(first|rfl|(rw [bz,ff (by omega)];done)|(rw [bz,ff (by omega)];simp;done)|simp)) rfl Mk
theorem HH (w0:World) (h:ah) (ai:b_) (aX:bQ w0 h ai):Calls Tryz.prog 38 [GT.val h ai].toArray w0 (dw ab w0 (h:ah)):=by
 refine Calls.run ab Tryz.func38 ?_
 intro ac β S
 have lZ:h.mem.length<=4194304:=ae.le (bu.mem (d:=h) aX)
 have l0:h.I.length<=4194304:=ae.le (bu.I (d:=h) aX)
 have lX:h.buf.length<=4194304:=ae.le (bu.buf (d:=h) aX)
 have lY:h.ag.length<=4194304:=ae.le (bu.ag (d:=h) aX)
 refine S.go 7 .nil fun ac w β S=>?_
 refine dI ?_
 let bH:b3:=⟨[(1,.p 0 0),(2,.p 1 0)],[GT.cells h ai,cg ah]⟩
 obtain⟨bw,bt,bP,S⟩:∃bw bt bP,aj Tryz.prog Tryz.f38.ntmps w0 ab bw bt bP bH ac w:=⟨_,_,_,S.z⟩
 refine me (fun ac w=>∃hL jo jl jz i_ jc u N β,aj Tryz.prog Tryz.f38.ntmps w0 ab u N β (bH.dl [] [(3,.p 2 0)] 3 [(2,[R h.mem.length i_.1,R ([]:List aO).length (GT.cZ (α:=List aO)).1,R h.buf.length hL.1,R h.ag.length jl.1])]) ac w/\ad w0 ab u N jo h.buf hL/\ad w0 ab u N jz h.ag jl/\ad w0 ab u N jc h.mem i_/\J jo jz/\J jo jc/\J jz jc) ?_ ?_
 ·refine S.dR (f:=14) 13 (by kernel_rfl) (by kernel_rfl) fun w S=>?_
  refine S.hm 8 [0,1,4,5,8,9] [] [(7,.v (R h.mem.length ai.mem.1)),(11,.v (R h.buf.length ai.buf.1)),(15,.v (R h.ag.length ai.ag.1))] .nil fun ac S=>?_
  refine ar.mH fun W aG=>?_
  refine ar.mj (l':=cp 14 [0,1,4,5,8,9]) (by kernel_rfl) ?_
  have Jk ac w hL jo jl jz i_ jc u N β (S:aj Tryz.prog Tryz.f38.ntmps w0 ab u N β (bH.dl [] [(3,.p 2 0)] 3 [(2,[R h.mem.length i_.1,R ([]:List aO).length (GT.cZ (α:=List aO)).1,R h.buf.length hL.1,R h.ag.length jl.1])]) ac w) (fV:ad w0 ab u N jo h.buf hL) (gL:ad w0 ab u N jz h.ag jl) (g1:ad w0 ab u N jc h.mem i_) (d240:J jo jz) (d241:J jo jc) (d242:J jz jc):W 0 (cp 14 [0,1,2,3,4,5,6,7,8,9,10,11,12,13]) ac w:=by
   exact mL aG ⟨rfl,hL,jo,jl,jz,i_,jc,_,_,_,S.z,fV,gL,g1,d240,d241,d242⟩
  have AL ac w nz kt nA kX lA ks u N β (S:aj Tryz.prog Tryz.f38.ntmps w0 ab u N β (bH.dl [] [(3,.p 2 0),(17,.v (GT.val (⟨h.mem,([]:List aO),h.buf,h.ag⟩:ah) (⟨lA,(GT.cZ (α:=List aO)),nz,nA⟩:b_)))] 3 [(2,cg ah)]) ac w) (l6:ad w0 ab u N kt h.buf nz) (sF:ad w0 ab u N kX h.ag nA) (wD:ad w0 ab u N ks h.mem lA) (d244:J kt kX) (d245:J kt ks) (d246:J kX ks) (al:d_ bt bw N u) (aP:cR bH.aM.length bP β):W 1 (cp 14 [0,1,2,3,4,5,6,7,8,9,10,11,12]) ac w:=by
   exact eo aG 13 (S.wl aG [] .nil fun _ _ _ S=>Jk _ _ nz kt nA kX lA ks _ _ _ S l6 sF wD d244 d245 d246)
  have Jl ac w nz kt nA kX lA ks u N β (S:aj Tryz.prog Tryz.f38.ntmps w0 ab u N β (bH.dl [] [(17,.v (GT.val (⟨h.mem,([]:List aO),h.buf,h.ag⟩:ah) (⟨lA,(GT.cZ (α:=List aO)),nz,nA⟩:b_)))] 2 []) ac w) (l6:ad w0 ab u N kt h.buf nz) (sF:ad w0 ab u N kX h.ag nA) (wD:ad w0 ab u N ks h.mem lA) (d248:J kt kX) (d249:J kt ks) (d250:J kX ks) (al:d_ bt bw N u) (aP:cR bH.aM.length bP β):W 2 (cp 14 [0,1,2,3,4,5,6,7,8,9,10,11]) ac w:=by
   exact eo aG 12 (S.e_ aG al aP [] .nil fun _ _ _ S cb=>AL _ _ nz kt nA kX lA ks _ _ _ S l6 sF wD d248 d249 d250 al cb)
  have AM ac w dP dX jk jV b0 bV u N β (S:aj Tryz.prog Tryz.f38.ntmps w0 ab u N β (bH.dl [] [(3,.p 2 0),(8,.v (R h.mem.length b0.1)),(12,.v (R h.buf.length dP.1)),(16,.v (R h.ag.length jk.1))] 3 [(2,cg ah)]) ac w) (eC:ad w0 ab u N dX h.buf dP) (qu:ad w0 ab u N jV h.ag jk) (ao:ad w0 ab u N bV h.mem b0) (d252:J dX jV) (d253:J dX bV) (d254:J jV bV) (al:d_ bt bw N u) (aP:cR bH.aM.length bP β):W 2 (cp 14 [0,1,2,3,4,5,6,7,8,9,10,12]) ac w:=by
   exact eo aG 11 (S.e_ aG al aP [] (.cons (fY (s:=Instr.build 31 [(0,R h.mem.length b0.1),(2,R h.buf.length dP.1),(3,R h.ag.length jk.1)].toArray) (v:= .agg [R h.mem.length b0.1,R ([]:List aO).length (GT.cZ (α:=List aO)).1,R h.buf.length dP.1,R h.ag.length jk.1].toArray) (fun w=>by kernel_rfl)) .nil) fun _ _ _ S cb=>AL _ _ dP dX jk jV b0 bV _ _ _ S eC qu ao d252 d253 d254 al cb)
  have Jm ac w dP dX jk jV b0 bV u N β (S:aj Tryz.prog Tryz.f38.ntmps w0 ab u N β (bH.dl [] [(8,.v (R h.mem.length b0.1)),(12,.v (R h.buf.length dP.1)),(16,.v (R h.ag.length jk.1))] 2 []) ac w) (eC:ad w0 ab u N dX h.buf dP) (qu:ad w0 ab u N jV h.ag jk) (ao:ad w0 ab u N bV h.mem b0) (d256:J dX jV) (d257:J dX bV) (d258:J jV bV) (al:d_ bt bw N u) (aP:cR bH.aM.length bP β):W 3 (cp 14 [0,1,2,3,4,5,6,7,8,9,10]) ac w:=by
   exact gA aG 11 12 (S.e_ aG al aP [] (.cons (fY (s:=Instr.build 31 [(0,R h.mem.length b0.1),(2,R h.buf.length dP.1),(3,R h.ag.length jk.1)].toArray) (v:= .agg [R h.mem.length b0.1,R ([]:List aO).length (GT.cZ (α:=List aO)).1,R h.buf.length dP.1,R h.ag.length jk.1].toArray) (fun w=>by kernel_rfl)) .nil) fun _ _ _ S cb=>Jl _ _ dP dX jk jV b0 bV _ _ _ S eC qu ao d256 d257 d258 al cb) (S.e_ aG al aP [] .nil fun _ _ _ S cb=>AM _ _ dP dX jk jV b0 bV _ _ _ S eC qu ao d256 d257 d258 al cb)
  have vp ac w dP dX dd ck b0 bV u N β (S:aj Tryz.prog Tryz.f38.ntmps w0 ab u N β (bH.dl [] [(3,.p 2 0),(8,.v (R h.mem.length b0.1)),(12,.v (R h.buf.length dP.1)),(13,.v (R 0 dd.1)),(15,.v (R h.ag.length ai.ag.1))] 3 [(2,cg ah)]) ac w) (eC:ad w0 ab u N dX h.buf dP) (bb:ad w0 ab u N ck ([]:List aH) dd) (ao:ad w0 ab u N bV h.mem b0) (d260:J dX ck) (d261:J dX bV) (d262:J ck bV) (al:∀b,bt b->N b/\u.heap[b]? =bw.heap[b]? /\¬ck b) (aP:cR bH.aM.length bP β):W 3 (cp 14 [0,1,2,3,4,5,6,7,8,9,12]) ac w:=by
   refine eo aG 10 ?_
   have XN:h.ag.length<=4194304:=ae.le (bu.ag (d:=h) (S.arg aX))
   refine id (S.lK (α:=aH) bb (bu.ag (d:=h) (S.arg aX)) (fun _ _ h=>h) (by':=32) (d:=16) (lx:=0) (ly:=h.ag.length) rfl fun ac w N MM GN S up LM d266=>?_)
   have AZ:=fun b h=>(⟨(up b (al b h).1 (al b h).2.2).1,(up b (al b h).1 (al b h).2.2).2.trans (al b h).2.1⟩:_/\_)
   refine ar.de S AZ aP fun bj=>?_
   have d269:=d266 _ (J.symm d262) ao.sub
   have d270:=d266 _ d260 eC.sub
   replace ao:=ao.bk (J.symm d262) up
   replace eC:=eC.bk d260 up
   clear up d266
   exact S.cX aG [] bj fun _ S=>AM _ _ dP dX MM GN b0 bV _ _ _ S eC LM ao d270 d261 (J.symm d269) AZ aP
  have AN ac w dP dX dd ck b0 bV u N β (S:aj Tryz.prog Tryz.f38.ntmps w0 ab u N β (bH.dl [] [(8,.v (R h.mem.length b0.1)),(12,.v (R h.buf.length dP.1)),(13,.v (R 0 dd.1)),(15,.v (R h.ag.length ai.ag.1))] 2 []) ac w) (eC:ad w0 ab u N dX h.buf dP) (bb:ad w0 ab u N ck ([]:List aH) dd) (ao:ad w0 ab u N bV h.mem b0) (d272:J dX ck) (d273:J dX bV) (d274:J ck bV) (al:∀b,bt b->N b/\u.heap[b]? =bw.heap[b]? /\¬ck b) (aP:cR bH.aM.length bP β):W 4 (cp 14 [0,1,2,3,4,5,6,7,8,9]) ac w:=by
   refine gA aG 10 12 ?_ (S.e_ aG (fun b h=>⟨(al b h).1,(al b h).2.1⟩) aP [] .nil fun _ _ _ S cb=>vp _ _ dP dX dd ck b0 bV _ _ _ S eC bb ao d272 d273 d274 al cb)
   have XP:h.ag.length<=4194304:=ae.le (bu.ag (d:=h) (S.arg aX))
   refine id (S.lK (α:=aH) bb (bu.ag (d:=h) (S.arg aX)) (fun _ _ h=>h) (by':=32) (d:=16) (lx:=0) (ly:=h.ag.length) rfl fun ac w N MN zz S up BW d278=>?_)
   have A0:=fun b h=>(⟨(up b (al b h).1 (al b h).2.2).1,(up b (al b h).1 (al b h).2.2).2.trans (al b h).2.1⟩:_/\_)
   refine ar.de S A0 aP fun bj=>?_
   have d281:=d278 _ (J.symm d274) ao.sub
   have d282:=d278 _ d272 eC.sub
   replace ao:=ao.bk (J.symm d274) up
   replace eC:=eC.bk d272 up
   clear up d278
   exact S.cX aG [] bj fun _ S=>Jm _ _ dP dX MN zz b0 bV _ _ _ S eC BW ao d282 d273 (J.symm d281) A0 aP
  have AO ac w dP dX b0 bV u N β (S:aj Tryz.prog Tryz.f38.ntmps w0 ab u N β (bH.dl [] [(3,.p 2 0),(8,.v (R h.mem.length b0.1)),(12,.v (R h.buf.length dP.1)),(15,.v (R h.ag.length ai.ag.1))] 3 [(2,cg ah)]) ac w) (eC:ad w0 ab u N dX h.buf dP) (ao:ad w0 ab u N bV h.mem b0) (d284:J dX bV) (al:d_ bt bw N u) (aP:cR bH.aM.length bP β):W 4 (cp 14 [0,1,2,3,4,5,6,8,9,12]) ac w:=by
   refine eo aG 7 ?_
   refine id (S.fH (α:=aH) (d:=13) (by kernel_rfl) fun ac w N MO GO S up LN d288=>?_)
   have vw:=fun b h=>(⟨(up b (al b h).1).1,(up b (al b h).1).2.trans (al b h).2,d288 b (al b h).1⟩:_/\_/\_)
   refine ar.de S (fun b h=>⟨(vw b h).1,(vw b h).2.1⟩) aP fun bj=>?_
   have d290:=J.w d288 ao.sub
   have d291:=J.w d288 eC.sub
   replace ao:=ao.up up
   replace eC:=eC.up up
   clear up d288
   exact S.cX aG [] bj fun _ S=>vp _ _ dP dX MO GO b0 bV _ _ _ S eC LN ao d291 d284 (J.symm d290) vw aP
  have sd ac w dd ck b0 bV cv cD u N β (S:aj Tryz.prog Tryz.f38.ntmps w0 ab u N β (bH.dl [] [(3,.p 2 0),(8,.v (R h.mem.length b0.1)),(9,.v (R 0 cv.1)),(11,.v (R h.buf.length ai.buf.1)),(13,.v (R 0 dd.1)),(15,.v (R h.ag.length ai.ag.1))] 3 [(2,cg ah)]) ac w) (bb:ad w0 ab u N ck ([]:List aH) dd) (ao:ad w0 ab u N bV h.mem b0) (ba:ad w0 ab u N cD ([]:List aH) cv) (d293:J ck bV) (d294:J ck cD) (d295:J bV cD) (al:∀b,bt b->N b/\u.heap[b]? =bw.heap[b]? /\¬cD b/\¬ck b) (aP:cR bH.aM.length bP β):W 4 (cp 14 [0,1,2,3,4,5,7,8,9,12]) ac w:=by
   refine eo aG 6 ?_
   have XS:h.buf.length<=4194304:=ae.le (bu.buf (d:=h) (S.arg aX))
   refine id (S.lK (α:=aH) ba (bu.buf (d:=h) (S.arg aX)) (fun _ _ h=>h) (by':=32) (d:=12) (lx:=0) (ly:=h.buf.length) rfl fun ac w N MP GP S up LO d299=>?_)
   have vx:=fun b h=>(⟨(up b (al b h).1 (al b h).2.2.1).1,(up b (al b h).1 (al b h).2.2.1).2.trans (al b h).2.1,(al b h).2.2.2⟩:_/\_/\_)
   refine ar.de S (fun b h=>⟨(vx b h).1,(vx b h).2.1⟩) aP fun bj=>?_
   have d302:=d299 _ d295 ao.sub
   have d303:=d299 _ d294 bb.sub
   replace ao:=ao.bk d295 up
   replace bb:=bb.bk d294 up
   clear up d299
   exact S.cX aG [] bj fun _ S=>vp _ _ MP GP dd ck b0 bV _ _ _ S LO bb ao (J.symm d303) (J.symm d302) d293 vx aP
  have Jo ac w dP dX b0 bV u N β (S:aj Tryz.prog Tryz.f38.ntmps w0 ab u N β (bH.dl [] [(8,.v (R h.mem.length b0.1)),(12,.v (R h.buf.length dP.1)),(15,.v (R h.ag.length ai.ag.1))] 2 []) ac w) (eC:ad w0 ab u N dX h.buf dP) (ao:ad w0 ab u N bV h.mem b0) (d305:J dX bV) (al:d_ bt bw N u) (aP:cR bH.aM.length bP β):W 5 (cp 14 [0,1,2,3,4,5,6,8,9]) ac w:=by
   refine gA aG 7 12 ?_ (S.e_ aG al aP [] .nil fun _ _ _ S cb=>AO _ _ dP dX b0 bV _ _ _ S eC ao d305 al cb)
   refine id (S.fH (α:=aH) (d:=13) (by kernel_rfl) fun ac w N MQ GQ S up LP d309=>?_)
   have vy:=fun b h=>(⟨(up b (al b h).1).1,(up b (al b h).1).2.trans (al b h).2,d309 b (al b h).1⟩:_/\_/\_)
   refine ar.de S (fun b h=>⟨(vy b h).1,(vy b h).2.1⟩) aP fun bj=>?_
   have d311:=J.w d309 ao.sub
   have d312:=J.w d309 eC.sub
   replace ao:=ao.up up
   replace eC:=eC.up up
   clear up d309
   exact S.cX aG [] bj fun _ S=>AN _ _ dP dX MQ GQ b0 bV _ _ _ S eC LP ao d312 d305 (J.symm d311) vy aP
  have vq ac w dd ck b0 bV cv cD u N β (S:aj Tryz.prog Tryz.f38.ntmps w0 ab u N β (bH.dl [] [(8,.v (R h.mem.length b0.1)),(9,.v (R 0 cv.1)),(11,.v (R h.buf.length ai.buf.1)),(13,.v (R 0 dd.1)),(15,.v (R h.ag.length ai.ag.1))] 2 []) ac w) (bb:ad w0 ab u N ck ([]:List aH) dd) (ao:ad w0 ab u N bV h.mem b0) (ba:ad w0 ab u N cD ([]:List aH) cv) (d314:J ck bV) (d315:J ck cD) (d316:J bV cD) (al:∀b,bt b->N b/\u.heap[b]? =bw.heap[b]? /\¬cD b/\¬ck b) (aP:cR bH.aM.length bP β):W 5 (cp 14 [0,1,2,3,4,5,7,8,9]) ac w:=by
   refine gA aG 6 12 ?_ (S.e_ aG (fun b h=>⟨(al b h).1,(al b h).2.1⟩) aP [] .nil fun _ _ _ S cb=>sd _ _ dd ck b0 bV cv cD _ _ _ S bb ao ba d314 d315 d316 al cb)
   have XT:h.buf.length<=4194304:=ae.le (bu.buf (d:=h) (S.arg aX))
   refine id (S.lK (α:=aH) ba (bu.buf (d:=h) (S.arg aX)) (fun _ _ h=>h) (by':=32) (d:=12) (lx:=0) (ly:=h.buf.length) rfl fun ac w N MR GR S up LQ d320=>?_)
   have vz:=fun b h=>(⟨(up b (al b h).1 (al b h).2.2.1).1,(up b (al b h).1 (al b h).2.2.1).2.trans (al b h).2.1,(al b h).2.2.2⟩:_/\_/\_)
   refine ar.de S (fun b h=>⟨(vz b h).1,(vz b h).2.1⟩) aP fun bj=>?_
   have d323:=d320 _ d316 ao.sub
   have d324:=d320 _ d315 bb.sub
   replace ao:=ao.bk d316 up
   replace bb:=bb.bk d315 up
   clear up d320
   exact S.cX aG [] bj fun _ S=>AN _ _ MR GR dd ck b0 bV _ _ _ S LQ bb ao (J.symm d324) (J.symm d323) d314 vz aP
  have vr ac w b0 bV cv cD u N β (S:aj Tryz.prog Tryz.f38.ntmps w0 ab u N β (bH.dl [] [(3,.p 2 0),(8,.v (R h.mem.length b0.1)),(9,.v (R 0 cv.1)),(11,.v (R h.buf.length ai.buf.1)),(15,.v (R h.ag.length ai.ag.1))] 3 [(2,cg ah)]) ac w) (ao:ad w0 ab u N bV h.mem b0) (ba:ad w0 ab u N cD ([]:List aH) cv) (d326:J bV cD) (al:∀b,bt b->N b/\u.heap[b]? =bw.heap[b]? /\¬cD b) (aP:cR bH.aM.length bP β):W 5 (cp 14 [0,1,2,3,4,5,8,9,12]) ac w:=by
   refine gA aG 6 7 ?_ ?_
   ·have XU:h.buf.length<=4194304:=ae.le (bu.buf (d:=h) (S.arg aX))
    refine id (S.lK (α:=aH) ba (bu.buf (d:=h) (S.arg aX)) (fun _ _ h=>h) (by':=32) (d:=12) (lx:=0) (ly:=h.buf.length) rfl fun ac w N MS GS S up LR d330=>?_)
    have A1:=fun b h=>(⟨(up b (al b h).1 (al b h).2.2).1,(up b (al b h).1 (al b h).2.2).2.trans (al b h).2.1⟩:_/\_)
    refine ar.de S A1 aP fun bj=>?_
    have d333:=d330 _ d326 ao.sub
    replace ao:=ao.bk d326 up
    clear up d330
    exact S.cX aG [] bj fun _ S=>AO _ _ MS GS b0 bV _ _ _ S LR ao (J.symm d333) A1 aP
   ·refine id (S.fH (α:=aH) (d:=13) (by kernel_rfl) fun ac w N MT GU S up LS d337=>?_)
    have vA:=fun b h=>(⟨(up b (al b h).1).1,(up b (al b h).1).2.trans (al b h).2.1,(al b h).2.2,d337 b (al b h).1⟩:_/\_/\_/\_)
    refine ar.de S (fun b h=>⟨(vA b h).1,(vA b h).2.1⟩) aP fun bj=>?_
    have d339:=J.w d337 ao.sub
    have d340:=J.w d337 ba.sub
    replace ao:=ao.up up
    replace ba:=ba.up up
    clear up d337
    exact S.cX aG [] bj fun _ S=>sd _ _ MT GU b0 bV cv cD _ _ _ S LS ao ba (J.symm d339) (J.symm d340) d326 vA aP
  have vs ac w dd ck b0 bV u N β (S:aj Tryz.prog Tryz.f38.ntmps w0 ab u N β (bH.dl [] [(3,.p 2 0),(8,.v (R h.mem.length b0.1)),(11,.v (R h.buf.length ai.buf.1)),(13,.v (R 0 dd.1)),(15,.v (R h.ag.length ai.ag.1))] 3 [(2,cg ah)]) ac w) (bb:ad w0 ab u N ck ([]:List aH) dd) (ao:ad w0 ab u N bV h.mem b0) (d342:J ck bV) (al:∀b,bt b->N b/\u.heap[b]? =bw.heap[b]? /\¬ck b) (aP:cR bH.aM.length bP β):W 5 (cp 14 [0,1,2,4,5,7,8,9,12]) ac w:=by
   refine eo aG 3 ?_
   refine id (S.fH (α:=aH) (d:=9) (by kernel_rfl) fun ac w N MU GV S up LU d346=>?_)
   have vB:=fun b h=>(⟨(up b (al b h).1).1,(up b (al b h).1).2.trans (al b h).2.1,d346 b (al b h).1,(al b h).2.2⟩:_/\_/\_/\_)
   refine ar.de S (fun b h=>⟨(vB b h).1,(vB b h).2.1⟩) aP fun bj=>?_
   have d348:=J.w d346 ao.sub
   have d349:=J.w d346 bb.sub
   replace ao:=ao.up up
   replace bb:=bb.up up
   clear up d346
   exact S.cX aG [] bj fun _ S=>sd _ _ dd ck b0 bV MU GV _ _ _ S bb ao LU d342 d349 d348 vB aP
  have vt ac w dd ck cv cD u N β (S:aj Tryz.prog Tryz.f38.ntmps w0 ab u N β (bH.dl [] [(3,.p 2 0),(7,.v (R h.mem.length ai.mem.1)),(9,.v (R 0 cv.1)),(11,.v (R h.buf.length ai.buf.1)),(13,.v (R 0 dd.1)),(15,.v (R h.ag.length ai.ag.1))] 3 [(2,cg ah)]) ac w) (bb:ad w0 ab u N ck ([]:List aH) dd) (ba:ad w0 ab u N cD ([]:List aH) cv) (d351:J ck cD) (al:∀b,bt b->N b/\u.heap[b]? =bw.heap[b]? /\¬cD b/\¬ck b) (aP:cR bH.aM.length bP β):W 5 (cp 14 [0,1,3,4,5,7,8,9,12]) ac w:=by
   refine eo aG 2 ?_
   refine id (S.dB 8 (pd w h.mem ai.mem (S.rd (bu.mem (d:=h) (S.arg aX)))) fun ac w N MV GW S up LV d355=>?_)
   have vC:=fun b h=>(⟨(up b (al b h).1).1,(up b (al b h).1).2.trans (al b h).2.1,(al b h).2.2.1,(al b h).2.2.2⟩:_/\_/\_/\_)
   refine ar.de S (fun b h=>⟨(vC b h).1,(vC b h).2.1⟩) aP fun bj=>?_
   have d357:=J.w d355 ba.sub
   have d358:=J.w d355 bb.sub
   replace ba:=ba.up up
   replace bb:=bb.up up
   clear up d355
   exact S.cX aG [] bj fun _ S=>sd _ _ dd ck MV GW cv cD _ _ _ S bb LV ba d358 d351 (J.symm d357) vC aP
  have AP ac w b0 bV cv cD u N β (S:aj Tryz.prog Tryz.f38.ntmps w0 ab u N β (bH.dl [] [(8,.v (R h.mem.length b0.1)),(9,.v (R 0 cv.1)),(11,.v (R h.buf.length ai.buf.1)),(15,.v (R h.ag.length ai.ag.1))] 2 []) ac w) (ao:ad w0 ab u N bV h.mem b0) (ba:ad w0 ab u N cD ([]:List aH) cv) (d360:J bV cD) (al:∀b,bt b->N b/\u.heap[b]? =bw.heap[b]? /\¬cD b) (aP:cR bH.aM.length bP β):W 6 (cp 14 [0,1,2,3,4,5,8,9]) ac w:=by
   refine rr aG 6 7 12 ?_ ?_ (S.e_ aG (fun b h=>⟨(al b h).1,(al b h).2.1⟩) aP [] .nil fun _ _ _ S cb=>vr _ _ b0 bV cv cD _ _ _ S ao ba d360 al cb)
   ·have XW:h.buf.length<=4194304:=ae.le (bu.buf (d:=h) (S.arg aX))
    refine id (S.lK (α:=aH) ba (bu.buf (d:=h) (S.arg aX)) (fun _ _ h=>h) (by':=32) (d:=12) (lx:=0) (ly:=h.buf.length) rfl fun ac w N MW GX S up LW d364=>?_)
    have A2:=fun b h=>(⟨(up b (al b h).1 (al b h).2.2).1,(up b (al b h).1 (al b h).2.2).2.trans (al b h).2.1⟩:_/\_)
    refine ar.de S A2 aP fun bj=>?_
    have HU:=d364 _ d360 ao.sub
    replace ao:=ao.bk d360 up
    clear up d364
    exact S.cX aG [] bj fun _ S=>Jo _ _ MW GX b0 bV _ _ _ S LW ao (J.symm HU) A2 aP
   ·refine id (S.fH (α:=aH) (d:=13) (by kernel_rfl) fun ac w N MX GY S up LX rW=>?_)
    have vD:=fun b h=>(⟨(up b (al b h).1).1,(up b (al b h).1).2.trans (al b h).2.1,(al b h).2.2,rW b (al b h).1⟩:_/\_/\_/\_)
    refine ar.de S (fun b h=>⟨(vD b h).1,(vD b h).2.1⟩) aP fun bj=>?_
    have HV:=J.w rW ao.sub
    have HW:=J.w rW ba.sub
    replace ao:=ao.up up
    replace ba:=ba.up up
    clear up rW
    exact S.cX aG [] bj fun _ S=>vq _ _ MX GY b0 bV cv cD _ _ _ S LX ao ba (J.symm HV) (J.symm HW) d360 vD aP
  have AQ ac w dd ck b0 bV u N β (S:aj Tryz.prog Tryz.f38.ntmps w0 ab u N β (bH.dl [] [(8,.v (R h.mem.length b0.1)),(11,.v (R h.buf.length ai.buf.1)),(13,.v (R 0 dd.1)),(15,.v (R h.ag.length ai.ag.1))] 2 []) ac w) (bb:ad w0 ab u N ck ([]:List aH) dd) (ao:ad w0 ab u N bV h.mem b0) (rX:J ck bV) (al:∀b,bt b->N b/\u.heap[b]? =bw.heap[b]? /\¬ck b) (aP:cR bH.aM.length bP β):W 6 (cp 14 [0,1,2,4,5,7,8,9]) ac w:=by
   refine gA aG 3 12 ?_ (S.e_ aG (fun b h=>⟨(al b h).1,(al b h).2.1⟩) aP [] .nil fun _ _ _ S cb=>vs _ _ dd ck b0 bV _ _ _ S bb ao rX al cb)
   refine id (S.fH (α:=aH) (d:=9) (by kernel_rfl) fun ac w N MY GZ S up LY rY=>?_)
   have vE:=fun b h=>(⟨(up b (al b h).1).1,(up b (al b h).1).2.trans (al b h).2.1,rY b (al b h).1,(al b h).2.2⟩:_/\_/\_/\_)
   refine ar.de S (fun b h=>⟨(vE b h).1,(vE b h).2.1⟩) aP fun bj=>?_
   have rZ:=J.w rY ao.sub
   have HX:=J.w rY bb.sub
   replace ao:=ao.up up
   replace bb:=bb.up up
   clear up rY
   exact S.cX aG [] bj fun _ S=>vq _ _ dd ck b0 bV MY GZ _ _ _ S bb ao LY rX HX rZ vE aP
  have AR ac w b0 bV u N β (S:aj Tryz.prog Tryz.f38.ntmps w0 ab u N β (bH.dl [] [(3,.p 2 0),(8,.v (R h.mem.length b0.1)),(11,.v (R h.buf.length ai.buf.1)),(15,.v (R h.ag.length ai.ag.1))] 3 [(2,cg ah)]) ac w) (ao:ad w0 ab u N bV h.mem b0) (al:d_ bt bw N u) (aP:cR bH.aM.length bP β):W 6 (cp 14 [0,1,2,4,5,8,9,12]) ac w:=by
   refine gA aG 3 7 ?_ ?_
   ·refine id (S.fH (α:=aH) (d:=9) (by kernel_rfl) fun ac w N MZ G0 S up LZ qR=>?_)
    have vF:=fun b h=>(⟨(up b (al b h).1).1,(up b (al b h).1).2.trans (al b h).2,qR b (al b h).1⟩:_/\_/\_)
    refine ar.de S (fun b h=>⟨(vF b h).1,(vF b h).2.1⟩) aP fun bj=>?_
    have z9:=J.w qR ao.sub
    replace ao:=ao.up up
    clear up qR
    exact S.cX aG [] bj fun _ S=>vr _ _ b0 bV MZ G0 _ _ _ S ao LZ z9 vF aP
   ·refine id (S.fH (α:=aH) (d:=13) (by kernel_rfl) fun ac w N M0 Da S up tV uY=>?_)
    have vG:=fun b h=>(⟨(up b (al b h).1).1,(up b (al b h).1).2.trans (al b h).2,uY b (al b h).1⟩:_/\_/\_)
    refine ar.de S (fun b h=>⟨(vG b h).1,(vG b h).2.1⟩) aP fun bj=>?_
    have HY:=J.w uY ao.sub
    replace ao:=ao.up up
    clear up uY
    exact S.cX aG [] bj fun _ S=>vs _ _ M0 Da b0 bV _ _ _ S tV ao (J.symm HY) vG aP
  have AS ac w dd ck cv cD u N β (S:aj Tryz.prog Tryz.f38.ntmps w0 ab u N β (bH.dl [] [(7,.v (R h.mem.length ai.mem.1)),(9,.v (R 0 cv.1)),(11,.v (R h.buf.length ai.buf.1)),(13,.v (R 0 dd.1)),(15,.v (R h.ag.length ai.ag.1))] 2 []) ac w) (bb:ad w0 ab u N ck ([]:List aH) dd) (ba:ad w0 ab u N cD ([]:List aH) cv) (z_:J ck cD) (al:∀b,bt b->N b/\u.heap[b]? =bw.heap[b]? /\¬cD b/\¬ck b) (aP:cR bH.aM.length bP β):W 6 (cp 14 [0,1,3,4,5,7,8,9]) ac w:=by
   refine gA aG 2 12 ?_ (S.e_ aG (fun b h=>⟨(al b h).1,(al b h).2.1⟩) aP [] .nil fun _ _ _ S cb=>vt _ _ dd ck cv cD _ _ _ S bb ba z_ al cb)
   refine id (S.dB 8 (pd w h.mem ai.mem (S.rd (bu.mem (d:=h) (S.arg aX)))) fun ac w N M1 G1 S up L0 uZ=>?_)
   have vH:=fun b h=>(⟨(up b (al b h).1).1,(up b (al b h).1).2.trans (al b h).2.1,(al b h).2.2.1,(al b h).2.2.2⟩:_/\_/\_/\_)
   refine ar.de S (fun b h=>⟨(vH b h).1,(vH b h).2.1⟩) aP fun bj=>?_
   have HZ:=J.w uZ ba.sub
   have H0:=J.w uZ bb.sub
   replace ba:=ba.up up
   replace bb:=bb.up up
   clear up uZ
   exact S.cX aG [] bj fun _ S=>vq _ _ dd ck M1 G1 cv cD _ _ _ S bb L0 ba H0 z_ (J.symm HZ) vH aP
  have AU ac w cv cD u N β (S:aj Tryz.prog Tryz.f38.ntmps w0 ab u N β (bH.dl [] [(3,.p 2 0),(7,.v (R h.mem.length ai.mem.1)),(9,.v (R 0 cv.1)),(11,.v (R h.buf.length ai.buf.1)),(15,.v (R h.ag.length ai.ag.1))] 3 [(2,cg ah)]) ac w) (ba:ad w0 ab u N cD ([]:List aH) cv) (al:∀b,bt b->N b/\u.heap[b]? =bw.heap[b]? /\¬cD b) (aP:cR bH.aM.length bP β):W 6 (cp 14 [0,1,3,4,5,8,9,12]) ac w:=by
   refine gA aG 2 7 ?_ ?_
   ·refine id (S.dB 8 (pd w h.mem ai.mem (S.rd (bu.mem (d:=h) (S.arg aX)))) fun ac w N M3 G2 S up L1 u0=>?_)
    have vI:=fun b h=>(⟨(up b (al b h).1).1,(up b (al b h).1).2.trans (al b h).2.1,(al b h).2.2⟩:_/\_/\_)
    refine ar.de S (fun b h=>⟨(vI b h).1,(vI b h).2.1⟩) aP fun bj=>?_
    have H2:=J.w u0 ba.sub
    replace ba:=ba.up up
    clear up u0
    exact S.cX aG [] bj fun _ S=>vr _ _ M3 G2 cv cD _ _ _ S L1 ba (J.symm H2) vI aP
   ·refine id (S.fH (α:=aH) (d:=13) (by kernel_rfl) fun ac w N M4 G3 S up L2 u1=>?_)
    have vJ:=fun b h=>(⟨(up b (al b h).1).1,(up b (al b h).1).2.trans (al b h).2.1,(al b h).2.2,u1 b (al b h).1⟩:_/\_/\_/\_)
    refine ar.de S (fun b h=>⟨(vJ b h).1,(vJ b h).2.1⟩) aP fun bj=>?_
    have H3:=J.w u1 ba.sub
    replace ba:=ba.up up
    clear up u1
    exact S.cX aG [] bj fun _ S=>vt _ _ M4 G3 cv cD _ _ _ S L2 ba (J.symm H3) vJ aP
  have AV ac w dd ck u N β (S:aj Tryz.prog Tryz.f38.ntmps w0 ab u N β (bH.dl [] [(3,.p 2 0),(7,.v (R h.mem.length ai.mem.1)),(11,.v (R h.buf.length ai.buf.1)),(13,.v (R 0 dd.1)),(15,.v (R h.ag.length ai.ag.1))] 3 [(2,cg ah)]) ac w) (bb:ad w0 ab u N ck ([]:List aH) dd) (al:∀b,bt b->N b/\u.heap[b]? =bw.heap[b]? /\¬ck b) (aP:cR bH.aM.length bP β):W 6 (cp 14 [0,1,4,5,7,8,9,12]) ac w:=by
   refine gA aG 2 3 ?_ ?_
   ·refine id (S.dB 8 (pd w h.mem ai.mem (S.rd (bu.mem (d:=h) (S.arg aX)))) fun ac w N M5 G4 S up L3 Ab=>?_)
    have vK:=fun b h=>(⟨(up b (al b h).1).1,(up b (al b h).1).2.trans (al b h).2.1,(al b h).2.2⟩:_/\_/\_)
    refine ar.de S (fun b h=>⟨(vK b h).1,(vK b h).2.1⟩) aP fun bj=>?_
    have H4:=J.w Ab bb.sub
    replace bb:=bb.up up
    clear up Ab
    exact S.cX aG [] bj fun _ S=>vs _ _ dd ck M5 G4 _ _ _ S bb L3 H4 vK aP
   ·refine id (S.fH (α:=aH) (d:=9) (by kernel_rfl) fun ac w N M6 G5 S up L4 r0=>?_)
    have vL:=fun b h=>(⟨(up b (al b h).1).1,(up b (al b h).1).2.trans (al b h).2.1,r0 b (al b h).1,(al b h).2.2⟩:_/\_/\_/\_)
    refine ar.de S (fun b h=>⟨(vL b h).1,(vL b h).2.1⟩) aP fun bj=>?_
    have H5:=J.w r0 bb.sub
    replace bb:=bb.up up
    clear up r0
    exact S.cX aG [] bj fun _ S=>vt _ _ dd ck M6 G5 _ _ _ S bb L4 H5 vL aP
  have Jq ac w b0 bV u N β (S:aj Tryz.prog Tryz.f38.ntmps w0 ab u N β (bH.dl [] [(8,.v (R h.mem.length b0.1)),(11,.v (R h.buf.length ai.buf.1)),(15,.v (R h.ag.length ai.ag.1))] 2 []) ac w) (ao:ad w0 ab u N bV h.mem b0) (al:d_ bt bw N u) (aP:cR bH.aM.length bP β):W 7 (cp 14 [0,1,2,4,5,8,9]) ac w:=by
   refine rr aG 3 7 12 ?_ ?_ (S.e_ aG al aP [] .nil fun _ _ _ S cb=>AR _ _ b0 bV _ _ _ S ao al cb)
   ·refine id (S.fH (α:=aH) (d:=9) (by kernel_rfl) fun ac w N M7 G6 S up L5 u2=>?_)
    have vM:=fun b h=>(⟨(up b (al b h).1).1,(up b (al b h).1).2.trans (al b h).2,u2 b (al b h).1⟩:_/\_/\_)
    refine ar.de S (fun b h=>⟨(vM b h).1,(vM b h).2.1⟩) aP fun bj=>?_
    have H6:=J.w u2 ao.sub
    replace ao:=ao.up up
    clear up u2
    exact S.cX aG [] bj fun _ S=>AP _ _ b0 bV M7 G6 _ _ _ S ao L5 H6 vM aP
   ·refine id (S.fH (α:=aH) (d:=13) (by kernel_rfl) fun ac w N M8 G7 S up L6 u3=>?_)
    have vN:=fun b h=>(⟨(up b (al b h).1).1,(up b (al b h).1).2.trans (al b h).2,u3 b (al b h).1⟩:_/\_/\_)
    refine ar.de S (fun b h=>⟨(vN b h).1,(vN b h).2.1⟩) aP fun bj=>?_
    have H7:=J.w u3 ao.sub
    replace ao:=ao.up up
    clear up u3
    exact S.cX aG [] bj fun _ S=>AQ _ _ M8 G7 b0 bV _ _ _ S L6 ao (J.symm H7) vN aP
  have Jr ac w cv cD u N β (S:aj Tryz.prog Tryz.f38.ntmps w0 ab u N β (bH.dl [] [(7,.v (R h.mem.length ai.mem.1)),(9,.v (R 0 cv.1)),(11,.v (R h.buf.length ai.buf.1)),(15,.v (R h.ag.length ai.ag.1))] 2 []) ac w) (ba:ad w0 ab u N cD ([]:List aH) cv) (al:∀b,bt b->N b/\u.heap[b]? =bw.heap[b]? /\¬cD b) (aP:cR bH.aM.length bP β):W 7 (cp 14 [0,1,3,4,5,8,9]) ac w:=by
   refine rr aG 2 7 12 ?_ ?_ (S.e_ aG (fun b h=>⟨(al b h).1,(al b h).2.1⟩) aP [] .nil fun _ _ _ S cb=>AU _ _ cv cD _ _ _ S ba al cb)
   ·refine id (S.dB 8 (pd w h.mem ai.mem (S.rd (bu.mem (d:=h) (S.arg aX)))) fun ac w N M9 G8 S up L7 u4=>?_)
    have vO:=fun b h=>(⟨(up b (al b h).1).1,(up b (al b h).1).2.trans (al b h).2.1,(al b h).2.2⟩:_/\_/\_)
    refine ar.de S (fun b h=>⟨(vO b h).1,(vO b h).2.1⟩) aP fun bj=>?_
    have H8:=J.w u4 ba.sub
    replace ba:=ba.up up
    clear up u4
    exact S.cX aG [] bj fun _ S=>AP _ _ M9 G8 cv cD _ _ _ S L7 ba (J.symm H8) vO aP
   ·refine id (S.fH (α:=aH) (d:=13) (by kernel_rfl) fun ac w N M_ G9 S up BY u5=>?_)
    have vP:=fun b h=>(⟨(up b (al b h).1).1,(up b (al b h).1).2.trans (al b h).2.1,(al b h).2.2,u5 b (al b h).1⟩:_/\_/\_/\_)
    refine ar.de S (fun b h=>⟨(vP b h).1,(vP b h).2.1⟩) aP fun bj=>?_
    have H9:=J.w u5 ba.sub
    replace ba:=ba.up up
    clear up u5
    exact S.cX aG [] bj fun _ S=>AS _ _ M_ G9 cv cD _ _ _ S BY ba (J.symm H9) vP aP
  have Js ac w dd ck u N β (S:aj Tryz.prog Tryz.f38.ntmps w0 ab u N β (bH.dl [] [(7,.v (R h.mem.length ai.mem.1)),(11,.v (R h.buf.length ai.buf.1)),(13,.v (R 0 dd.1)),(15,.v (R h.ag.length ai.ag.1))] 2 []) ac w) (bb:ad w0 ab u N ck ([]:List aH) dd) (al:∀b,bt b->N b/\u.heap[b]? =bw.heap[b]? /\¬ck b) (aP:cR bH.aM.length bP β):W 7 (cp 14 [0,1,4,5,7,8,9]) ac w:=by
   refine rr aG 2 3 12 ?_ ?_ (S.e_ aG (fun b h=>⟨(al b h).1,(al b h).2.1⟩) aP [] .nil fun _ _ _ S cb=>AV _ _ dd ck _ _ _ S bb al cb)
   ·refine id (S.dB 8 (pd w h.mem ai.mem (S.rd (bu.mem (d:=h) (S.arg aX)))) fun ac w N Na G_ S up L8 Ac=>?_)
    have vQ:=fun b h=>(⟨(up b (al b h).1).1,(up b (al b h).1).2.trans (al b h).2.1,(al b h).2.2⟩:_/\_/\_)
    refine ar.de S (fun b h=>⟨(vQ b h).1,(vQ b h).2.1⟩) aP fun bj=>?_
    have H_:=J.w Ac bb.sub
    replace bb:=bb.up up
    clear up Ac
    exact S.cX aG [] bj fun _ S=>AQ _ _ dd ck Na G_ _ _ _ S bb L8 H_ vQ aP
   ·refine id (S.fH (α:=aH) (d:=9) (by kernel_rfl) fun ac w N Nb Ha S up L9 r1=>?_)
    have vR:=fun b h=>(⟨(up b (al b h).1).1,(up b (al b h).1).2.trans (al b h).2.1,r1 b (al b h).1,(al b h).2.2⟩:_/\_/\_/\_)
    refine ar.de S (fun b h=>⟨(vR b h).1,(vR b h).2.1⟩) aP fun bj=>?_
    have Ia:=J.w r1 bb.sub
    replace bb:=bb.up up
    clear up r1
    exact S.cX aG [] bj fun _ S=>AS _ _ dd ck Nb Ha _ _ _ S bb L9 Ia vR aP
  have Jt ac w u N β (S:aj Tryz.prog Tryz.f38.ntmps w0 ab u N β (bH.dl [] [(3,.p 2 0),(7,.v (R h.mem.length ai.mem.1)),(11,.v (R h.buf.length ai.buf.1)),(15,.v (R h.ag.length ai.ag.1))] 3 [(2,cg ah)]) ac w) (al:d_ bt bw N u) (aP:cR bH.aM.length bP β):W 7 (cp 14 [0,1,4,5,8,9,12]) ac w:=by
   refine rr aG 2 3 7 ?_ ?_ ?_
   ·refine id (S.dB 8 (pd w h.mem ai.mem (S.rd (bu.mem (d:=h) (S.arg aX)))) fun ac w N Nc Hb S up L_ Ib=>?_)
    have A4:=fun b h=>(⟨(up b (al b h).1).1,(up b (al b h).1).2.trans (al b h).2⟩:_/\_)
    refine ar.de S A4 aP fun bj=>?_
    clear up Ib
    exact S.cX aG [] bj fun _ S=>AR _ _ Nc Hb _ _ _ S L_ A4 aP
   ·refine id (S.fH (α:=aH) (d:=9) (by kernel_rfl) fun ac w N Nd Hc S up Ma Ad=>?_)
    have vS:=fun b h=>(⟨(up b (al b h).1).1,(up b (al b h).1).2.trans (al b h).2,Ad b (al b h).1⟩:_/\_/\_)
    refine ar.de S (fun b h=>⟨(vS b h).1,(vS b h).2.1⟩) aP fun bj=>?_
    clear up Ad
    exact S.cX aG [] bj fun _ S=>AU _ _ Nd Hc _ _ _ S Ma vS aP
   ·refine id (S.fH (α:=aH) (d:=13) (by kernel_rfl) fun ac w N Nf Hd S up Mb Ae=>?_)
    have vT:=fun b h=>(⟨(up b (al b h).1).1,(up b (al b h).1).2.trans (al b h).2,Ae b (al b h).1⟩:_/\_/\_)
    refine ar.de S (fun b h=>⟨(vT b h).1,(vT b h).2.1⟩) aP fun bj=>?_
    clear up Ae
    exact S.cX aG [] bj fun _ S=>AV _ _ Nf Hd _ _ _ S Mb vT aP
  have al:d_ bt bw bt bw:=fun b h=>⟨h,rfl⟩
  have aP:cR bH.aM.length bP bP:=fun _ _=>rfl
  refine Va aG 2 3 7 12 ?_ ?_ ?_ (S.e_ aG al aP [] .nil fun _ _ _ S cb=>Jt _ _ _ _ _ S al cb)
  ·refine id (S.dB 8 (pd w h.mem ai.mem (S.rd (bu.mem (d:=h) (S.arg aX)))) fun ac w N Ng He S up Mc Ic=>?_)
   have A5:=fun b h=>(⟨(up b (al b h).1).1,(up b (al b h).1).2.trans (al b h).2⟩:_/\_)
   refine ar.de S A5 aP fun bj=>?_
   clear up Ic
   exact S.cX aG [] bj fun _ S=>Jq _ _ Ng He _ _ _ S Mc A5 aP
  ·refine id (S.fH (α:=aH) (d:=9) (by kernel_rfl) fun ac w N Nh Hf S up Md Af=>?_)
   have vU:=fun b h=>(⟨(up b (al b h).1).1,(up b (al b h).1).2.trans (al b h).2,Af b (al b h).1⟩:_/\_/\_)
   refine ar.de S (fun b h=>⟨(vU b h).1,(vU b h).2.1⟩) aP fun bj=>?_
   clear up Af
   exact S.cX aG [] bj fun _ S=>Jr _ _ Nh Hf _ _ _ S Md vU aP
  ·refine id (S.fH (α:=aH) (d:=13) (by kernel_rfl) fun ac w N n7 Hg S up Me Ag=>?_)
   have vV:=fun b h=>(⟨(up b (al b h).1).1,(up b (al b h).1).2.trans (al b h).2,Ag b (al b h).1⟩:_/\_/\_)
   refine ar.de S (fun b h=>⟨(vV b h).1,(vV b h).2.1⟩) aP fun bj=>?_
   clear up Ag
   exact S.cX aG [] bj fun _ S=>Js _ _ n7 Hg _ _ _ S Me vV aP
 clear S
 rintro ac w ⟨hL,jo,jl,jz,i_,jc,u,N,β,S,fV,gL,g1,Ie,r2,Ah⟩
 refine S.ex fun S=>?_
 refine S.go 11 .nil fun ac w β S=>?_
 have B2:=S.mI (α:=aO)
 refine c8 (fun a4 ac w=>∃(i:Nat) (acc:List aO) (oU:_) (pV:_) (u:_) (N:_) (β:_),a4=h.I.length-i/\(i<=h.I.length)/\(acc=h.I.take i)/\aj Tryz.prog Tryz.f38.ntmps w0 ab u N β ⟨[(2,.p 1 0),(3,.p 2 0),(19,.v (R h.I.length ai.I.1)),(20,.v (aa (h.I.length:Int))),(21,.v (aa (i:Int)))],[GT.cells h ai,cg ah,[R h.mem.length i_.1,R acc.length oU.1,R h.buf.length hL.1,R h.ag.length jl.1]]⟩ ac w/\ad w0 ab u N pV acc oU/\ad w0 ab u N jc h.mem i_/\ad w0 ab u N jo h.buf hL/\ad w0 ab u N jz h.ag jl/\J pV jc/\J pV jo/\J pV jz) _ ⟨0,([]:List aO),(GT.cZ (α:=List aO)),ab,_,_,_,rfl,cw,(by rfl),S.z,B2,g1,fV,gL,(J.symm (fun b _ h=>False.elim h)),(J.symm (fun b _ h=>False.elim h)),(J.symm (fun b _ h=>False.elim h))⟩ ?_
 clear S g1 fV gL B2
 rintro IG a4 JL ac w ⟨i,acc,oU,pV,u,N,β,rfl,hi,bz,S,l8,g1,fV,gL,u6,u7,u9⟩
 refine S.rs fun S=>?_
 have gI:acc.length=i:=by rw [bz];simp;omega
 refine S.aI 6 .nil (decide ((i:Int)<(h.I.length:Int))) (fun ac w β Jf IY S=>?_) (fun ac w β Jf IY S=>?_)
 ·refine S.go 13 (.cons (b5 (bu.I (d:=h) (S.arg aX)) i Tryz.underlying28) (.cons (dz (bu.I (d:=h) (S.arg aX)) 74 i) .nil)) fun ac w β S=>?_
  refine dI ?_
  refine S.dR (f:=8) 5 (by kernel_rfl) (by kernel_rfl) fun w S=>?_
  refine S.a9 0 [1,0] [] [(25,.p 2 1)] .nil fun ac S=>?_
  refine S.a9 1 [1] [] [(26,.v (R acc.length oU.1))] .nil fun ac S=>?_
  refine S.a9 2 [3,2] [] [(27,.v (GT.val (el h.I i) (ai.I.2 i)))] .nil fun ac S=>?_
  refine ar.one (i:=3) (by kernel_rfl) ?_
  refine id (S.dB 28 (PK w (el h.I i) (ai.I.2 i) (S.rd (ae.el (bu.I (d:=h) (S.arg aX)) i (by omega)))) fun ac w N Ni W2 S up wG p6=>?_)
  refine ar.next S up (by kernel_rfl) ?_
  have Ig:=J.w p6 l8.sub
  have Ih:=J.w p6 g1.sub
  have Ii:=J.w p6 fV.sub
  have Ij:=J.w p6 gL.sub
  replace l8:=l8.up up
  replace g1:=g1.up up
  replace fV:=fV.up up
  replace gL:=gL.up up
  clear up p6
  refine ar.one (i:=4) (by kernel_rfl) ?_
  refine id (S.p2 (α:=aO) (x:=(el h.I i)) (p:=Ni) wG.own wG.sub wG.dM (d:=29) (by kernel_rfl) fun ac w N ajr W3 S up Mg p7=>?_)
  refine ar.next S up (by kernel_rfl) ?_
  have Ik:=p7 _ Ig l8.sub
  have Il:=p7 _ Ih g1.sub
  have Im:=p7 _ Ii fV.sub
  have Io:=p7 _ Ij gL.sub
  replace l8:=l8.up up
  replace g1:=g1.up up
  replace fV:=fV.up up
  replace gL:=gL.up up
  clear up p7
  refine ar.one (i:=5) (by kernel_rfl) ?_
  refine id (S.Dk (α:=aO) l8 Mg Ik (by':=168) (d:=30) (lx:=acc.length) (ly:=1) rfl rfl (by kernel_rfl) (show _<=4194304 by simp only [List.length_append,List.length_cons,List.length_nil];omega) fun ac w N Ck Hi S up Mh r3=>?_)
  refine ar.last (by kernel_rfl) ?_
  have tf:=r3 _ (J.symm u6) Il g1.sub
  have Ip:=r3 _ (J.symm u7) Im fV.sub
  have Iq:=r3 _ (J.symm u9) Io gL.sub
  replace g1:=g1.bk (J.symm u6) up
  replace fV:=fV.bk (J.symm u7) up
  replace gL:=gL.bk (J.symm u9) up
  clear up r3
  refine S.c_ 6 [] [(31,.p 2 1)] 4 [] .nil fun ac w β S=>?_
  refine S.c_ 7 [] [] 4 [(2,[R h.mem.length i_.1,R (acc++[(el h.I i)]).length Ck.1,R h.buf.length hL.1,R h.ag.length jl.1])] .nil fun ac w β S=>?_
  refine ar.done (by kernel_rfl) ?_ _
  refine S.ex fun S=>?_
  refine S.ge 6 (.cons (cc (i:Int) 1) .nil) IG fun ac w β S=>JL.of (h.I.length-(i+1)) _ _ (by omega) ⟨i+1,(acc++[(el h.I i)]),Ck,Hi,_,_,_,rfl,?_,?_,S.z,Mh,g1,fV,gL,(J.symm tf),(J.symm Ip),(J.symm Iq)⟩
  ·exact cK
  ·clear S;(first|(rw [jb (by omega),bz];done)|(rw [jb (by omega),bz];simp;done))
 refine S.bo 13 .nil [GT.val (⟨h.mem,acc,h.buf,h.ag⟩:ah) (⟨i_,oU,hL,jl⟩:b_)] fun ac w β S=>?_
 have Mi:=fs (x:=(⟨h.mem,acc,h.buf,h.ag⟩:ah)) (p:=(⟨i_,oU,hL,jl⟩:b_)) g1 l8 fV gL (J.symm u6) (J.symm r2) (J.symm Ah) u7 u9 Ie
 exact cy S (show h=(⟨h.mem,acc,h.buf,h.ag⟩:ah) by clear S;(rw [bz,ff (by omega)];first|done|rfl|(simp;done))) rfl Mi
theorem js (w0:World) (k:Int) (length:Int) (fC:-9223372036854775808<length):Calls Tryz.prog 41 [aa k,aa length].toArray w0 (fun e w'=>e= .returned (B (a3 k 0 (length-1)))/\bB ab w0 w'):=by
 refine Calls.run ab Tryz.func41 ?_
 intro ac β S
 refine S.aI 10 .nil (decide (k>=0)) (fun ac w β h1 a8 S=>?_) (fun ac w β h1 a8 S=>?_)
 ·exact S.aq 8 .nil [B (decide (k<length))] (a6 (by clear S;(rw [Bool.eq_iff_iff];simp [a3];omega)))
 exact S.aq 8 .nil [B false] (a6 (by clear S;(rw [Bool.eq_iff_iff];simp [a3];omega)))
theorem E0 {p:Prop} (h:p:=by clear S;(first|(unfold aK;rw [if_pos (by omega)])|(unfold aK;rw [if_neg (by omega)]))):p:=h
theorem HB (w0:World) (h:ah) (ai:b_) (aX:bQ w0 h ai) (m:Int):Calls Tryz.prog 39 [GT.val h ai,aa m].toArray w0 (o4 ab w0 ((aK h m).1:aO) ((aK h m).2:Bool)):=by
 refine Calls.run ab Tryz.func39 ?_
 intro ac β S
 have lZ:h.mem.length<=4194304:=ae.le (bu.mem (d:=h) aX)
 have l0:h.I.length<=4194304:=ae.le (bu.I (d:=h) aX)
 have lX:h.buf.length<=4194304:=ae.le (bu.buf (d:=h) aX)
 have lY:h.ag.length<=4194304:=ae.le (bu.ag (d:=h) aX)
 refine S.bd 18 (.cons (aE fun w hw=>js w m (h.I.length:Int) (by omega)) .nil) (!(a3 m 0 ((h.I.length:Int)-1))) (fun ac w β h1 S=>?_) (fun ac w β h1 S=>?_)
 ·have an:=cm h1
  have b7:=dn an
  refine S.bo 9 (.cons (fY (s:=Instr.build 74 [].toArray) (v:= .agg [R ([]:List aR).length (GT.cZ (α:=List aR)).1,R ([]:List (List Int)).length (GT.cZ (α:=List (List Int))).1,R ([]:List Bool).length (GT.cZ (α:=List Bool)).1,R ([]:List ax).length (GT.cZ (α:=List ax)).1,R ([]:List Int).length (GT.cZ (α:=List Int)).1,aa 0,aa 0,R ([]:List bS).length (GT.cZ (α:=List bS)).1,aa 0].toArray) (fun w=>by kernel_rfl)) .nil) [GT.val (⟨([]:List aR),([]:List (List Int)),([]:List Bool),([]:List ax),([]:List Int),0,0,([]:List bS),0⟩:aO) (⟨(GT.cZ (α:=List aR)),(GT.cZ (α:=List (List Int))),(GT.cZ (α:=List Bool)),(GT.cZ (α:=List ax)),(GT.cZ (α:=List Int)),(GT.cZ (α:=List bS))⟩:ft),B false] fun ac w β S=>?_
  have f_:=S.mI (α:=aR)
  have bX:=S.mI (α:=List Int)
  have bL:=S.mI (α:=Bool)
  have ao:=S.mI (α:=ax)
  have bO:=S.mI (α:=Int)
  have bF:=S.mI (α:=bS)
  have nj:=FO (x:=(⟨([]:List aR),([]:List (List Int)),([]:List Bool),([]:List ax),([]:List Int),0,0,([]:List bS),0⟩:aO)) (p:=(⟨(GT.cZ (α:=List aR)),(GT.cZ (α:=List (List Int))),(GT.cZ (α:=List Bool)),(GT.cZ (α:=List ax)),(GT.cZ (α:=List Int)),(GT.cZ (α:=List bS))⟩:ft)) f_ bX bL ao bO bF (fun b _ h=>False.elim h) (fun b _ h=>False.elim h) (fun b _ h=>False.elim h) (fun b _ h=>False.elim h) (fun b _ h=>False.elim h) (fun b _ h=>False.elim h) (fun b _ h=>False.elim h) (fun b _ h=>False.elim h) (fun b _ h=>False.elim h) (fun b _ h=>False.elim h) (fun b _ h=>False.elim h) (fun b _ h=>False.elim h) (fun b _ h=>False.elim h) (fun b _ h=>False.elim h) (fun b _ h=>False.elim h) (show a_ 0 from⟨by decide,by decide⟩) (show a_ 0 from⟨by decide,by decide⟩) (show a_ 0 from⟨by decide,by decide⟩)
  exact gb (p':=()) S (show(aK h m).1=(⟨([]:List aR),([]:List (List Int)),([]:List Bool),([]:List ax),([]:List Int),0,0,([]:List bS),0⟩:aO) from E0) (show(aK h m).2=false from E0) rfl rfl nj trivial
 have eS:=b9 h1
 have ie:=cV eS
 refine S.go 10 (.cons (cq (bu.I (d:=h) (S.arg aX)) m Tryz.underlying28) (.cons (dz (bu.I (d:=h) (S.arg aX)) 74 m.toNat) .nil)) fun ac w β S=>S.cJ (r:=(el h.I m.toNat)) (d:=18) (PK w (el h.I m.toNat) (ai.I.2 m.toNat) (S.rd (ae.el (bu.I (d:=h) (S.arg aX)) m.toNat (by omega)))) fun ac w N j5 e6 S up ba d16=>?_
 clear up d16
 refine S.bo 5 .nil [GT.val (el h.I m.toNat) j5,B true] fun ac w β S=>?_
 exact gb (p':=()) S (show(aK h m).1=(el h.I m.toNat) from E0) (show(aK h m).2=true from E0) rfl rfl ba trivial
theorem TL {p:Prop} (h:p:=by clear S;first|rfl|(simp [a3, *];done)|(simp [a3, *];omega)|(simp_all [a3];done)|(simp_all [a3];omega)):p:=h
theorem hh (w0:World) (n:Int) (a:Int) (b:Int):Calls Tryz.prog 129 [aa n,aa a,aa b].toArray w0 (fun e w'=>e= .returned (B (a3 n a b))/\bB ab w0 w'):=by
 refine Calls.run ab Tryz.func129 ?_
 intro ac β S
 refine S.aI 11 .nil (decide (n>=a)) (fun ac w β h1 a8 S=>?_) (fun ac w β h1 a8 S=>?_)
 ·exact S.aq 8 .nil [B (decide (n<=b))] (a6 TL)
 exact S.aq 8 .nil [B false] (a6 TL)
theorem HE (w0:World) (cells:List Int) (mb:aD Int) (my:bQ w0 cells mb):Calls Tryz.prog 242 [R cells.length mb.1].toArray w0 (fun e w'=>e= .returned (B (ho cells))/\bB ab w0 w'):=by
 refine Calls.run ab Tryz.func242 ?_
 intro ac β S
 have JX:cells.length<=4194304:=ae.le my
 refine S.go 14 .nil fun ac w β S=>?_
 refine c8 (fun a4 ac w=>∃(k:Nat) (u:_) (N:_) (β:_),a4=cells.length-k/\(k<=cells.length)/\((cells.take k).all (fun v=>a3 v 0 99)=true)/\aj Tryz.prog Tryz.f242.ntmps w0 ab u N β ⟨[(0,.v (R cells.length mb.1)),(5,.v (R cells.length mb.1)),(6,.v (aa (cells.length:Int))),(7,.v (aa (k:Int)))],[]⟩ ac w) _ ⟨0,_,_,_,rfl,cw,(by simp),S.z⟩ ?_
 clear S
 rintro f1 a4 fm ac w ⟨k,u,N,β,rfl,hk,he,S⟩
 refine S.rs fun S=>?_
 refine S.aI 6 .nil (decide ((k:Int)<(cells.length:Int))) (fun ac w β aF cC S=>?_) (fun ac w β aF cC S=>?_)
 ·refine S.bd 19 (.cons (b5 (S.arg my) k Tryz.underlying38) (.cons (cj (S.arg my) 3 k) (.cons (aE fun w hw=>hh w (el cells k) 0 99) .nil))) (!(a3 (el cells k) 0 99)) (fun ac w β bm S=>?_) (fun ac w β bm S=>?_)
  ·have cS:=cm bm
   have gH:=dn cS
   exact S.aq 7 .nil [B false] (a6 (by clear S;(first|(unfold ho;rw [mi (k:=k) (by omega) (by first|assumption|simp_all)];simp;done)|(unfold ho;rw [eY (by omega) he];simp;done)|(unfold ho;rw [eY (by omega) he];simp [*];done)|(unfold ho;rw [eY (by omega) he];simp;omega))))
  have dc:=b9 bm
  have fF:=cV dc
  refine S.ge 8 (.cons (cc (k:Int) 1) .nil) f1 fun ac w β S=>fm.of (cells.length-(k+1)) _ _ (by omega) ⟨k+1,_,_,_,rfl,?_,?_,S.z⟩
  ·exact cK
  ·clear S;exact pY (by omega) he (by first|assumption|(simp only [g8,a3] at*;simp_all;done)|(simp_all;done)|(simp_all;omega))
 exact S.aq 15 .nil [B ((cells.length:Int)==4)] (a6 (by clear S;(first|(unfold ho;rw [eY (by omega) he];simp;done)|(unfold ho;rw [eY (by omega) he];simp [*];done)|(unfold ho;rw [eY (by omega) he];simp;omega)|(unfold ho;rw [mi (k:=k) (by omega) (by first|assumption|simp_all)];simp;done))))
theorem PA (w0:World) (m:List (List Int)) (pm:aD (List Int)) (hm:bQ w0 m pm) (ep:Int):Calls Tryz.prog 128 [R m.length pm.1,aa ep].toArray w0 (fun e w'=>e= .returned (B (ib m ep))/\bB ab w0 w'):=by
 refine Calls.run ab Tryz.func128 ?_
 intro ac β S
 have q6:m.length<=4194304:=ae.le hm
 refine S.go 14 .nil fun ac w β S=>?_
 refine c8 (fun a4 ac w=>∃(k:Nat) (u:_) (N:_) (β:_),a4=m.length-k/\(k<=m.length)/\((m.take k).all ho=true)/\aj Tryz.prog Tryz.f128.ntmps w0 ab u N β ⟨[(0,.v (R m.length pm.1)),(1,.v (aa ep)),(7,.v (R m.length pm.1)),(8,.v (aa (m.length:Int))),(9,.v (aa (k:Int)))],[]⟩ ac w) _ ⟨0,_,_,_,rfl,cw,(by simp),S.z⟩ ?_
 clear S
 rintro f1 a4 fm ac w ⟨k,u,N,β,rfl,hk,he,S⟩
 refine S.rs fun S=>?_
 refine S.aI 6 .nil (decide ((k:Int)<(m.length:Int))) (fun ac w β aF cC S=>?_) (fun ac w β aF cC S=>?_)
 ·refine S.bd 19 (.cons (b5 (S.arg hm) k Tryz.underlying22) (.cons (cj (S.arg hm) 38 k) (.cons (aE fun w hw=>HE w (el m k) (pm.2 k) (bJ (ae.el (S.arg hm) k (by omega)) hw)) .nil))) (!(ho (el m k))) (fun ac w β bm S=>?_) (fun ac w β bm S=>?_)
  ·have cS:=cm bm
   exact S.aq 7 .nil [B false] (a6 (by clear S;(first|(unfold ib;rw [mi (k:=k) (by omega) (by first|assumption|simp_all)];simp;done)|(unfold ib;rw [eY (by omega) he];simp;done)|(unfold ib;rw [eY (by omega) he];simp [*];done)|(unfold ib;rw [eY (by omega) he];simp;omega))))
  have cE:=b9 bm
  refine S.ge 8 (.cons (cc (k:Int) 1) .nil) f1 fun ac w β S=>fm.of (m.length-(k+1)) _ _ (by omega) ⟨k+1,_,_,_,rfl,?_,?_,S.z⟩
  ·exact cK
  ·clear S;exact pY (by omega) he (by first|assumption|(simp only [g8,a3] at*;simp_all;done)|(simp_all;done)|(simp_all;omega))
 exact S.aq 16 .nil [B ((m.length:Int)==ep)] (a6 (by clear S;(first|(unfold ib;rw [eY (by omega) he];simp;done)|(unfold ib;rw [eY (by omega) he];simp [*];done)|(unfold ib;rw [eY (by omega) he];simp;omega)|(unfold ib;rw [mi (k:=k) (by omega) (by first|assumption|simp_all)];simp;done))))
theorem Tw {p:Prop} (h:p:=by clear S;(first|(unfold ot;rw [show b.length=i by omega,he];first|rfl|(simp [*];done)|(simp;omega)|(rw [Bool.eq_iff_iff];simp;omega))|(unfold ot;rw [Gc (k:=i) (by omega) (Gc (k:=k) (by omega) (by simp_all<;>fail))];rfl))):p:=h
theorem Pn (w0:World) (b:List aH) (bD:aD aH) (hb:bQ w0 b bD):Calls Tryz.prog 130 [R b.length bD.1].toArray w0 (fun e w'=>e= .returned (B (ot b))/\bB ab w0 w'):=by
 refine Calls.run ab Tryz.func130 ?_
 intro ac β S
 have kG:b.length<=4194304:=ae.le hb
 refine S.go 14 .nil fun ac w β S=>?_
 refine c8 (fun a4 ac w=>∃(i:Nat) (u:_) (N:_) (β:_),a4=b.length-i/\(i<=b.length)/\((List.range i).all (fun i=>(List.range i).all fun k=>!(decide ((el b i).tag=(el b k).tag)&&decide ((el b i).page=(el b k).page)))=true)/\aj Tryz.prog Tryz.f130.ntmps w0 ab u N β ⟨[(0,.v (R b.length bD.1)),(7,.v (R b.length bD.1)),(8,.v (aa (b.length:Int))),(9,.v (aa (i:Int)))],[]⟩ ac w) _ ⟨0,_,_,_,rfl,cw,(by rfl),S.z⟩ ?_
 clear S
 rintro f1 a4 fm ac w ⟨i,u,N,β,rfl,hi,he,S⟩
 refine S.rs fun S=>?_
 refine S.aI 6 .nil (decide ((i:Int)<(b.length:Int))) (fun ac w β aF cC S=>?_) (fun ac w β aF cC S=>?_)
 ·have ap1:(b.take i).length=i-0:=by first|(simp;done)|(simp;omega)
  refine S.go 25 (.cons (b5 (S.arg hb) i Tryz.underlying29) (.cons (dz (S.arg hb) 138 i) (.cons (Hq (S.arg hb) (l:=b.length) (a:=0) (b:=i) rfl (.inl ⟨rfl,rfl⟩) (.inr rfl) (by omega) (by omega) Tryz.underlying29 (by kernel_rfl)) .nil))) fun ac w β S=>?_
  refine c8 (fun a4 ac w=>∃(k:Nat) (u:_) (N:_) (β:_),a4=i-k/\(k<=i)/\((List.range k).all (fun k=>!(decide ((el b i).tag=(el b k).tag)&&decide ((el b i).page=(el b k).page)))=true)/\aj Tryz.prog Tryz.f130.ntmps w0 ab u N β ⟨[(0,.v (R b.length bD.1)),(4,.p 0 0),(7,.v (R b.length bD.1)),(8,.v (aa (b.length:Int))),(9,.v (aa (i:Int))),(16,.v (R i (bD.1.c_ 0 4))),(17,.v (aa (i:Int))),(18,.v (aa (k:Int)))],[GT.cells (el b i) ()]⟩ ac w) _ ⟨0,_,_,_,rfl,cw,(by rfl),S.z⟩ ?_
  clear S
  rintro f6 a4 Ey ac w ⟨k,u,N,β,rfl,hk,kF,S⟩
  refine S.rs fun S=>?_
  have abl:k<i->el (b.take i) k=el b k:=fun h=>QU h
  refine S.aI 6 .nil (decide ((k:Int)<(i:Int))) (fun ac w β dc fF S=>?_) (fun ac w β dc fF S=>?_)
  ·refine S.aI 21 (.cons (eP (show GT.rd b6 _ _ (b.take i) ((bD.1.c_ 0 4,fun i=>bD.2 (0+i)):aD aH) from Nt (S.arg hb) (a:=0) (b:=i) (by omega) (by omega)) (l:=i) (k:=k) (i:=(k:Int)) (by omega) rfl (by omega) Tryz.underlying29 (by kernel_rfl)) (.cons (dz (show GT.rd b6 _ _ (b.take i) ((bD.1.c_ 0 4,fun i=>bD.2 (0+i)):aD aH) from Nt (S.arg hb) (a:=0) (b:=i) (by omega) (by omega)) 138 k) .nil)) ((el b i).tag==(el (b.take i) k).tag) (fun ac w β c2 eb S=>?_) (fun ac w β c2 eb S=>?_)
   ·refine S.aI 8 .nil ((el b i).page==(el (b.take i) k).page) (fun ac w β ec hC S=>?_) (fun ac w β ec hC S=>?_)
    ·exact S.aq 7 .nil [B false] (a6 Tw)
    refine S.ge 8 (.cons (cc (k:Int) 1) .nil) f6 fun ac w β S=>Ey.of (i-(k+1)) _ _ (by omega) ⟨k+1,_,_,_,rfl,?_,?_,S.z⟩
    ·exact cK
    ·clear S;(refine rK kF ?_;simp_all)
   refine S.ge 16 (.cons (cc (k:Int) 1) .nil) f6 fun ac w β S=>Ey.of (i-(k+1)) _ _ (by omega) ⟨k+1,_,_,_,rfl,?_,?_,S.z⟩
   ·exact cK
   ·clear S;(refine rK kF ?_;simp_all)
  refine S.ge 11 (.cons (cc (i:Int) 1) .nil) f1 fun ac w β S=>fm.of (b.length-(i+1)) _ _ (by omega) ⟨i+1,_,_,_,rfl,?_,?_,S.z⟩
  ·exact cK
  ·clear S;(refine rK he ?_);(have e:k=i:=(by omega));rw [e] at kF;exact kF
 exact S.aq 15 .nil [B (decide ((b.length:Int)<=6))] (a6 Tw)
theorem nJ (w0:World):Calls Tryz.prog 246 [].toArray w0 (fun e w'=>e= .returned (GT.val (⟨-1,0⟩:aR) ())/\bB ab w0 w'):=by
 refine Calls.run ab Tryz.func246 ?_
 intro ac β S
 exact S.aq 12 (.cons (fY (s:=Instr.build 111 [(0,aa (-1))].toArray) (v:= .agg [aa (-1),aa 0].toArray) (fun w=>by kernel_rfl)) .nil) [GT.val (⟨(-1),0⟩:aR) ()] (hX (p:=()) (by clear S;first|rfl|(simp [id, *];done)|(simp [id, *];omega)|(simp_all [id];done)|(simp_all [id];omega)))
theorem E2 {p:Prop} (h:p:=by clear S;first|rfl|(simp [g8, *];done)|(simp [g8, *];omega)|(simp_all [g8];done)|(simp_all [g8];omega)):p:=h
theorem YV (w0:World) (s:aR) (ep:Int) (fC:0<=ep) (gU:ep<=1000):Calls Tryz.prog 280 [GT.val s (),aa ep].toArray w0 (fun e w'=>e= .returned (B (g8 s ep))/\bB ab w0 w'):=by
 refine Calls.run ab Tryz.func280 ?_
 intro ac β S
 refine S.go 7 .nil fun ac w β S=>?_
 refine dI ?_
 rcases Bool.eq_false_or_eq_true (decide (s=(⟨-1,0⟩:aR))) with h1|h1
 ·refine S.oo [(3,true)] (keep:=[4]) (m:=0) (σ':=⟨[(4,.v (B true))],[]⟩) (.cons (aE fun w hw=>nJ w) (.cons (qG (t:=111) s (⟨-1,0⟩:aR) (by kernel_rfl)) .nil)) rfl (by kernel_rfl) (by kernel_rfl) (.cons h1 .nil) fun ac w S=>?_
  refine S.ex fun S=>?_
  exact S.aq 2 .nil [B true] (a6 E2)
 ·rcases Bool.eq_false_or_eq_true (decide (ep>0)) with an|an
  ·have b7:=of_decide_eq_true an
   rcases Bool.eq_false_or_eq_true (a3 s.page 0 (ep-1)) with b1|b1
   ·have dJ:=cV b1
    refine S.oo [(3,false),(6,true),(13,true)] (keep:=[4]) (m:=0) (σ':=⟨[(4,.v (B (a3 s.bg 1 3)))],[]⟩) (.cons (aE fun w hw=>nJ w) (.cons (qG (t:=111) s (⟨-1,0⟩:aR) (by kernel_rfl)) (.cons (hf ep 1) (.cons (aE fun w hw=>hh w s.page 0 (ep-1)) (.cons (aE fun w hw=>hh w s.bg 1 3) .nil))))) rfl (by kernel_rfl) (by kernel_rfl) (.cons h1 (.cons an (.cons b1 .nil))) fun ac w S=>?_
    refine S.ex fun S=>?_
    exact S.aq 2 .nil [B (a3 s.bg 1 3)] (a6 E2)
   ·have c6:=dn b1
    refine S.oo [(3,false),(6,true),(13,false)] (keep:=[4]) (m:=0) (σ':=⟨[(4,.v (B false))],[]⟩) (.cons (aE fun w hw=>nJ w) (.cons (qG (t:=111) s (⟨-1,0⟩:aR) (by kernel_rfl)) (.cons (hf ep 1) (.cons (aE fun w hw=>hh w s.page 0 (ep-1)) .nil)))) rfl (by kernel_rfl) (by kernel_rfl) (.cons h1 (.cons an (.cons b1 .nil))) fun ac w S=>?_
    refine S.ex fun S=>?_
    exact S.aq 2 .nil [B false] (a6 E2)
  ·have gH:=of_decide_eq_false an
   refine S.oo [(3,false),(6,false)] (keep:=[4]) (m:=0) (σ':=⟨[(4,.v (B false))],[]⟩) (.cons (aE fun w hw=>nJ w) (.cons (qG (t:=111) s (⟨-1,0⟩:aR) (by kernel_rfl)) .nil)) rfl (by kernel_rfl) (by kernel_rfl) (.cons h1 (.cons an .nil)) fun ac w S=>?_
   refine S.ex fun S=>?_
   exact S.aq 2 .nil [B false] (a6 E2)
theorem HG (w0:World) (t:List aR) (bh:aD aR) (bx:bQ w0 t bh) (size:Int) (ep:Int) (fC:0<=ep) (gU:ep<=1000):Calls Tryz.prog 243 [R t.length bh.1,aa size,aa ep].toArray w0 (fun e w'=>e= .returned (B (gZ t size ep))/\bB ab w0 w'):=by
 refine Calls.run ab Tryz.func243 ?_
 intro ac β S
 have Bh:t.length<=4194304:=ae.le bx
 refine S.go 14 .nil fun ac w β S=>?_
 refine c8 (fun a4 ac w=>∃(k:Nat) (u:_) (N:_) (β:_),a4=t.length-k/\(k<=t.length)/\((t.take k).all (fun s=>g8 s ep)=true)/\aj Tryz.prog Tryz.f243.ntmps w0 ab u N β ⟨[(0,.v (R t.length bh.1)),(1,.v (aa size)),(2,.v (aa ep)),(9,.v (R t.length bh.1)),(10,.v (aa (t.length:Int))),(11,.v (aa (k:Int)))],[]⟩ ac w) _ ⟨0,_,_,_,rfl,cw,(by simp),S.z⟩ ?_
 clear S
 rintro f1 a4 fm ac w ⟨k,u,N,β,rfl,hk,he,S⟩
 refine S.rs fun S=>?_
 refine S.aI 6 .nil (decide ((k:Int)<(t.length:Int))) (fun ac w β aF cC S=>?_) (fun ac w β aF cC S=>?_)
 ·refine S.bd 21 (.cons (b5 (S.arg bx) k Tryz.underlying64) (.cons (dz (S.arg bx) 111 k) (.cons (aE fun w hw=>YV w (el t k) ep (by omega) (by omega)) .nil))) (!(g8 (el t k) ep)) (fun ac w β bm S=>?_) (fun ac w β bm S=>?_)
  ·have cS:=cm bm
   exact S.aq 7 .nil [B false] (a6 (by clear S;(first|(unfold gZ;rw [mi (k:=k) (by omega) (by first|assumption|simp_all)];simp;done)|(unfold gZ;rw [eY (by omega) he];simp;done)|(unfold gZ;rw [eY (by omega) he];simp [*];done)|(unfold gZ;rw [eY (by omega) he];simp;omega))))
  have cE:=b9 bm
  refine S.ge 8 (.cons (cc (k:Int) 1) .nil) f1 fun ac w β S=>fm.of (t.length-(k+1)) _ _ (by omega) ⟨k+1,_,_,_,rfl,?_,?_,S.z⟩
  ·exact cK
  ·clear S;exact pY (by omega) he (by first|assumption|(simp only [g8,a3] at*;simp_all;done)|(simp_all;done)|(simp_all;omega))
 exact S.aq 16 .nil [B ((t.length:Int)==size)] (a6 (by clear S;(first|(unfold gZ;rw [eY (by omega) he];simp;done)|(unfold gZ;rw [eY (by omega) he];simp [*];done)|(unfold gZ;rw [eY (by omega) he];simp;omega)|(unfold gZ;rw [mi (k:=k) (by omega) (by first|assumption|simp_all)];simp;done))))
theorem Dy (w0:World) (p:Int):Calls Tryz.prog 244 [aa p].toArray w0 (fun e w'=>e= .returned (B (a3 p 0 255))/\bB ab w0 w'):=by
 refine Calls.run ab Tryz.func244 ?_
 intro ac β S
 exact S.aq 13 (.cons (aE fun w hw=>hh w p 0 255) .nil) [B (a3 p 0 255)] (a6 (by clear S;first|rfl|(simp [a3, *];done)|(simp [a3, *];omega)|(simp_all [a3];done)|(simp_all [a3];omega)))
theorem sv {p:Prop} (h:p:=by clear S;first|rfl|(simp [m6, *];done)|(simp [m6, *];omega)|(simp_all [m6];done)|(simp_all [m6];omega)):p:=h
theorem YL (w0:World) (i:da):Calls Tryz.prog 339 [GT.val i ()].toArray w0 (fun e w'=>e= .returned (B (m6 i))/\bB ab w0 w'):=by
 refine Calls.run ab Tryz.func339 ?_
 intro ac β S
 refine S.aI 21 .nil (i.eL==1) (fun ac w β h1 a8 S=>?_) (fun ac w β h1 a8 S=>?_)
 ·exact S.aq 13 (.cons (aE fun w hw=>hh w i.x 0 99) .nil) [B (a3 i.x 0 99)] (a6 sv)
 refine S.aI 7 .nil (i.eL==2) (fun ac w β aF cC S=>?_) (fun ac w β aF cC S=>?_)
 ·exact S.aq 13 (.cons (aE fun w hw=>hh w i.x 0 99) .nil) [B (a3 i.x 0 99)] (a6 sv)
 refine S.aI 7 .nil (i.eL==5) (fun ac w β bm c6 S=>?_) (fun ac w β bm c6 S=>?_)
 ·exact S.aq 13 (.cons (aE fun w hw=>hh w i.x 0 99) .nil) [B (a3 i.x 0 99)] (a6 sv)
 refine S.aI 6 .nil (i.eL==6) (fun ac w β cE fl S=>?_) (fun ac w β cE fl S=>?_)
 ·exact S.aq 10 (.cons (aE fun w hw=>hh w i.x 0 99) .nil) [B (a3 i.x 0 99)] (a6 sv)
 refine S.aI 8 .nil (i.eL==3) (fun ac w β ez iU S=>?_) (fun ac w β ez iU S=>?_)
 ·exact S.aq 13 (.cons (aE fun w hw=>hh w i.x 0 15) .nil) [B (a3 i.x 0 15)] (a6 sv)
 refine S.aI 6 .nil (i.eL==4) (fun ac w β eS ie S=>?_) (fun ac w β eS ie S=>?_)
 ·exact S.aq 10 (.cons (aE fun w hw=>hh w i.x 0 15) .nil) [B (a3 i.x 0 15)] (a6 sv)
 refine S.aI 7 .nil (i.eL==7) (fun ac w β jG nV S=>?_) (fun ac w β jG nV S=>?_)
 ·exact S.aq 10 .nil [B (i.x==0)] (a6 sv)
 refine S.aI 7 .nil (i.eL==8) (fun ac w β oz pn S=>?_) (fun ac w β oz pn S=>?_)
 ·exact S.aq 10 (.cons (aE fun w hw=>hh w i.x 0 11) .nil) [B (a3 i.x 0 11)] (a6 sv)
 exact S.aq 10 .nil [B false] (a6 sv)
theorem YS (w0:World) (p:List da) (pp:aD da) (bC:bQ w0 p pp):Calls Tryz.prog 310 [R p.length pp.1].toArray w0 (fun e w'=>e= .returned (B (kf p))/\bB ab w0 w'):=by
 refine Calls.run ab Tryz.func310 ?_
 intro ac β S
 have J5:p.length<=4194304:=ae.le bC
 refine S.go 14 .nil fun ac w β S=>?_
 refine c8 (fun a4 ac w=>∃(k:Nat) (u:_) (N:_) (β:_),a4=p.length-k/\(k<=p.length)/\((p.take k).all m6=true)/\aj Tryz.prog Tryz.f310.ntmps w0 ab u N β ⟨[(0,.v (R p.length pp.1)),(5,.v (R p.length pp.1)),(6,.v (aa (p.length:Int))),(7,.v (aa (k:Int)))],[]⟩ ac w) _ ⟨0,_,_,_,rfl,cw,(by simp),S.z⟩ ?_
 clear S
 rintro f1 a4 fm ac w ⟨k,u,N,β,rfl,hk,he,S⟩
 refine S.rs fun S=>?_
 refine S.aI 6 .nil (decide ((k:Int)<(p.length:Int))) (fun ac w β aF cC S=>?_) (fun ac w β aF cC S=>?_)
 ·refine S.bd 20 (.cons (b5 (S.arg bC) k Tryz.underlying63) (.cons (dz (S.arg bC) 128 k) (.cons (aE fun w hw=>YL w (el p k)) .nil))) (!(m6 (el p k))) (fun ac w β bm S=>?_) (fun ac w β bm S=>?_)
  ·have cS:=cm bm
   exact S.aq 7 .nil [B false] (a6 (by clear S;(first|(unfold kf;rw [mi (k:=k) (by omega) (by first|assumption|simp_all)];simp;done)|(unfold kf;rw [eY (by omega) he];simp;done)|(unfold kf;rw [eY (by omega) he];simp [*];done)|(unfold kf;rw [eY (by omega) he];simp;omega))))
  have cE:=b9 bm
  refine S.ge 8 (.cons (cc (k:Int) 1) .nil) f1 fun ac w β S=>fm.of (p.length-(k+1)) _ _ (by omega) ⟨k+1,_,_,_,rfl,?_,?_,S.z⟩
  ·exact cK
  ·clear S;exact pY (by omega) he (by first|assumption|(simp only [g8,a3] at*;simp_all;done)|(simp_all;done)|(simp_all;omega))
 exact S.aq 15 (.cons (aE fun w hw=>hh w (p.length:Int) 1 12) .nil) [B (a3 (p.length:Int) 1 12)] (a6 (by clear S;(first|(unfold kf;rw [eY (by omega) he];simp;done)|(unfold kf;rw [eY (by omega) he];simp [*];done)|(unfold kf;rw [eY (by omega) he];simp;omega)|(unfold kf;rw [mi (k:=k) (by omega) (by first|assumption|simp_all)];simp;done))))
theorem YA (w0:World) (c:fy):Calls Tryz.prog 327 [GT.val c ()].toArray w0 (dw ab w0 (m4 c:List Int)):=by
 refine Calls.run ab Tryz.func327 ?_
 intro ac β S
 refine S.go 8 .nil fun ac w β S=>S.gE (α:=Int) (d:=4) fun ac w N af br S up aA d4=>?_
 clear up d4
 refine S.go 12 (.cons (aE fun w hw=>hh w c.aY 0 3) .nil) fun ac w β S=>?_
 refine iw S (fun ac w=>∃(lJ:List Int) (bM:_) (cT:_) (u:_) (N:_) (β:_),(lJ=(if a3 c.aY 0 3 then [] else [1]))/\aj Tryz.prog Tryz.f327.ntmps w0 ab u N β ⟨[(1,.p 0 0),(3,.v (R lJ.length bM.1))],[GT.cells c ()]⟩ ac w/\ad w0 ab u N cT lJ bM) ?_ ?_
 ·clear S;intro S
  refine S.bd 0 .nil (!(a3 c.aY 0 3)) (fun ac w β dc S=>?_) (fun ac w β dc S=>?_)
  ·have ez:=cm dc
   have iU:=dn ez
   refine S.go 3 .nil fun ac w β S=>S.h3 (α:=Int) (x:=1) (p:=()) (F:=ab) (show a_ 1 from⟨by decide,by decide⟩) (fun b h=>False.elim h) (fun b h=>False.elim h) (d:=10) fun ac w N y3 C4 S up jM d14=>?_
   replace aA:=aA.up up
   clear up d14
   refine S.lG (α:=Int) aA jM.ak (fun _ _ h=>h) (by':=8) (d:=11) (lx:=0) (ly:=1) rfl fun ac w N cv cD S up e1 d19=>?_
   clear up d19
   exact S.dG 2 .nil fun ac w β S=>⟨rfl,([1]),cv,cD,_,_,_,(by clear S;(first|(rw [if_pos (by assumption)];simp [*];done)|(rw [if_neg (by simp [*])];simp [*];done)|((repeat' split)<;>first|rfl|(simp;done)|(exfalso;simp_all;done)|(simp_all;done)))),S.z,e1⟩
  have lp:=b9 dc
  have ve:=cV lp
  exact S.dG 2 .nil fun ac w β S=>⟨rfl,([]:List Int),af,br,_,_,_,(by clear S;(first|(rw [if_pos (by assumption)];simp [*];done)|(rw [if_neg (by simp [*])];simp [*];done)|((repeat' split)<;>first|rfl|(simp;done)|(exfalso;simp_all;done)|(simp_all;done)))),S.z,aA⟩
 clear S aA
 rintro ac w ⟨lJ,bM,cT,u,N,β,vv,S,ao⟩
 have aeT:lJ.length<=1:=by rw [vv];(repeat' split)<;>simp
 refine S.ex fun S=>?_
 refine S.go 10 (.cons (aE fun w hw=>hh w c.post 0 255) .nil) fun ac w β S=>?_
 refine iw S (fun ac w=>∃(k1:List Int) (fe:_) (mf:_) (u:_) (N:_) (β:_),(k1=(if a3 c.aY 0 3 then [] else [1])++(if a3 c.post 0 255 then [] else [2]))/\aj Tryz.prog Tryz.f327.ntmps w0 ab u N β ⟨[(1,.p 0 0),(3,.v (R k1.length fe.1))],[GT.cells c ()]⟩ ac w/\ad w0 ab u N mf k1 fe) ?_ ?_
 ·clear S;intro S
  refine S.bd 0 .nil (!(a3 c.post 0 255)) (fun ac w β gS S=>?_) (fun ac w β gS S=>?_)
  ·have lS:=cm gS
   have Aq:=dn lS
   refine S.go 3 .nil fun ac w β S=>S.h3 (α:=Int) (x:=2) (p:=()) (F:=ab) (show a_ 2 from⟨by decide,by decide⟩) (fun b h=>False.elim h) (fun b h=>False.elim h) (d:=17) fun ac w N ug WW S up l7 d32=>?_
   replace ao:=ao.up up
   clear up d32
   refine S.kq (α:=Int) ao l7.ak (fun _ _ h=>h) (by':=8) (d:=18) (lx:=lJ.length) (ly:=1) rfl rfl (show _<=4194304 by simp only [List.length_append,List.length_cons,List.length_nil];omega) fun ac w N jx mg S up e3 d37=>?_
   clear up d37
   exact S.dG 2 .nil fun ac w β S=>⟨rfl,(lJ++[2]),jx,mg,_,_,_,(by clear S;(first|(rw [if_pos (by assumption)];simp [*];done)|(rw [if_neg (by simp [*])];simp [*];done)|(rw [vv];(repeat' split)<;>first|rfl|(simp;done)|(exfalso;simp_all;done)|(simp_all;done)))),S.z,e3⟩
  have q1:=b9 gS
  have Ed:=cV q1
  exact S.dG 2 .nil fun ac w β S=>⟨rfl,lJ,bM,cT,_,_,_,(by clear S;(first|(rw [if_pos (by assumption)];simp [*];done)|(rw [if_neg (by simp [*])];simp [*];done)|(rw [vv];(repeat' split)<;>first|rfl|(simp;done)|(exfalso;simp_all;done)|(simp_all;done)))),S.z,ao⟩
 clear S ao
 rintro ac w ⟨k1,fe,mf,u,N,β,sf,S,dm⟩
 have Bf:k1.length<=2:=by rw [sf];(repeat' split)<;>simp
 refine S.ex fun S=>?_
 refine S.aI 8 .nil (c.post != 0) (fun ac w β pt At S=>?_) (fun ac w β pt At S=>?_)
 ·refine S.go 6 .nil fun ac w β S=>?_
  refine iw S (fun ac w=>∃(gX:List Int) (k9:_) (kY:_) (u:_) (N:_) (β:_),(gX=(if a3 c.aY 0 3 then [] else [1])++(if a3 c.post 0 255 then [] else [2])++(if c.post≠0/\c.e4=false then [3] else []))/\aj Tryz.prog Tryz.f327.ntmps w0 ab u N β ⟨[(1,.p 0 0),(3,.v (R gX.length k9.1))],[GT.cells c ()]⟩ ac w/\ad w0 ab u N kY gX k9) ?_ ?_
  ·clear S;intro S
   refine S.bd 0 .nil (!c.e4) (fun ac w β oA S=>?_) (fun ac w β oA S=>?_)
   ·have r_:=cm oA
    refine S.go 3 .nil fun ac w β S=>S.h3 (α:=Int) (x:=3) (p:=()) (F:=ab) (show a_ 3 from⟨by decide,by decide⟩) (fun b h=>False.elim h) (fun b h=>False.elim h) (d:=28) fun ac w N VI Oy S up B1 d51=>?_
    replace dm:=dm.up up
    clear up d51
    refine S.kq (α:=Int) dm B1.ak (fun _ _ h=>h) (by':=8) (d:=29) (lx:=k1.length) (ly:=1) rfl rfl (show _<=4194304 by simp only [List.length_append,List.length_cons,List.length_nil];omega) fun ac w N n8 nE S up y0 d56=>?_
    clear up d56
    exact S.dG 2 .nil fun ac w β S=>⟨rfl,(k1++[3]),n8,nE,_,_,_,(by clear S;(first|(rw [if_pos (by assumption)];simp [*];done)|(rw [if_neg (by simp [*])];simp [*];done)|(rw [sf];(repeat' split)<;>first|rfl|(simp;done)|(exfalso;simp_all;done)|(simp_all;done)))),S.z,y0⟩
   have vk:=b9 oA
   exact S.dG 2 .nil fun ac w β S=>⟨rfl,k1,fe,mf,_,_,_,(by clear S;(first|(rw [if_pos (by assumption)];simp [*];done)|(rw [if_neg (by simp [*])];simp [*];done)|(rw [sf];(repeat' split)<;>first|rfl|(simp;done)|(exfalso;simp_all;done)|(simp_all;done)))),S.z,dm⟩
  clear S dm
  rintro ac w ⟨gX,k9,kY,u,N,β,nc,S,dO⟩
  have JV:gX.length<=3:=by rw [nc];(repeat' split)<;>simp
  refine S.ex fun S=>?_
  refine S.aI 8 .nil (c.aY==2) (fun ac w β sb Eg S=>?_) (fun ac w β sb Eg S=>?_)
  ·refine S.go 6 .nil fun ac w β S=>?_
   refine iw S (fun ac w=>∃(ek:List Int) (mO:_) (kZ:_) (u:_) (N:_) (β:_),(ek=(if a3 c.aY 0 3 then [] else [1])++(if a3 c.post 0 255 then [] else [2])++(if c.post≠0/\c.e4=false then [3] else [])++(if c.aY=2/\c.post≠0 then [4] else []))/\aj Tryz.prog Tryz.f327.ntmps w0 ab u N β ⟨[(3,.v (R ek.length mO.1))],[]⟩ ac w/\ad w0 ab u N kZ ek mO) ?_ ?_
   ·clear S;intro S
    refine S.lt 37 pt fun S=>?_
    refine S.go 3 .nil fun ac w β S=>S.h3 (α:=Int) (x:=4) (p:=()) (F:=ab) (show a_ 4 from⟨by decide,by decide⟩) (fun b h=>False.elim h) (fun b h=>False.elim h) (d:=39) fun ac w N Cl s6 S up ha d67=>?_
    replace dO:=dO.up up
    clear up d67
    refine S.kq (α:=Int) dO ha.ak (fun _ _ h=>h) (by':=8) (d:=40) (lx:=gX.length) (ly:=1) rfl rfl (show _<=4194304 by simp only [List.length_append,List.length_cons,List.length_nil];omega) fun ac w N n9 o1 S up pI d72=>?_
    clear up d72
    exact S.dG 2 .nil fun ac w β S=>⟨rfl,(gX++[4]),n9,o1,_,_,_,(by clear S;(first|(rw [if_pos (by assumption)];simp [*];done)|(rw [if_neg (by simp [*])];simp [*];done)|(rw [nc];(repeat' split)<;>first|rfl|(simp;done)|(exfalso;simp_all;done)|(simp_all;done)))),S.z,pI⟩
   clear S dO
   rintro ac w ⟨ek,mO,kZ,u,N,β,jI,S,iX⟩
   have v7:ek.length<=4:=by rw [jI];(repeat' split)<;>simp
   refine S.ex fun S=>?_
   refine S.bo 8 .nil [R ek.length mO.1] fun ac w β S=>?_
   exact cy S (show m4 c=ek by clear S;(rw [jI];rfl)) rfl iX
  refine S.go 6 .nil fun ac w β S=>?_
  refine iw S (fun ac w=>∃(ek:List Int) (rC:_) (xl:_) (u:_) (N:_) (β:_),(ek=(if a3 c.aY 0 3 then [] else [1])++(if a3 c.post 0 255 then [] else [2])++(if c.post≠0/\c.e4=false then [3] else [])++(if c.aY=2/\c.post≠0 then [4] else []))/\aj Tryz.prog Tryz.f327.ntmps w0 ab u N β ⟨[(3,.v (R ek.length rC.1))],[]⟩ ac w/\ad w0 ab u N xl ek rC) ?_ ?_
  ·clear S;intro S
   exact S.dG 2 .nil fun ac w β S=>⟨rfl,gX,k9,kY,_,_,_,(by clear S;(first|(rw [if_pos (by assumption)];simp [*];done)|(rw [if_neg (by simp [*])];simp [*];done)|(rw [nc];(repeat' split)<;>first|rfl|(simp;done)|(exfalso;simp_all;done)|(simp_all;done)))),S.z,dO⟩
  clear S dO
  rintro ac w ⟨ek,rC,xl,u,N,β,jI,S,wH⟩
  have v7:ek.length<=4:=by rw [jI];(repeat' split)<;>simp
  refine S.ex fun S=>?_
  refine S.bo 8 .nil [R ek.length rC.1] fun ac w β S=>?_
  exact cy S (show m4 c=ek by clear S;(rw [jI];rfl)) rfl wH
 refine S.go 6 .nil fun ac w β S=>?_
 refine iw S (fun ac w=>∃(gX:List Int) (qA:_) (rN:_) (u:_) (N:_) (β:_),(gX=(if a3 c.aY 0 3 then [] else [1])++(if a3 c.post 0 255 then [] else [2])++(if c.post≠0/\c.e4=false then [3] else []))/\aj Tryz.prog Tryz.f327.ntmps w0 ab u N β ⟨[(1,.p 0 0),(3,.v (R gX.length qA.1))],[GT.cells c ()]⟩ ac w/\ad w0 ab u N rN gX qA) ?_ ?_
 ·clear S;intro S
  exact S.dG 2 .nil fun ac w β S=>⟨rfl,k1,fe,mf,_,_,_,(by clear S;(first|(rw [if_pos (by assumption)];simp [*];done)|(rw [if_neg (by simp [*])];simp [*];done)|(rw [sf];(repeat' split)<;>first|rfl|(simp;done)|(exfalso;simp_all;done)|(simp_all;done)))),S.z,dm⟩
 clear S dm
 rintro ac w ⟨gX,qA,rN,u,N,β,nc,S,sI⟩
 have JV:gX.length<=3:=by rw [nc];(repeat' split)<;>simp
 refine S.ex fun S=>?_
 refine S.aI 8 .nil (c.aY==2) (fun ac w β AH Av S=>?_) (fun ac w β AH Av S=>?_)
 ·refine S.go 6 .nil fun ac w β S=>?_
  refine iw S (fun ac w=>∃(ek:List Int) (pM:_) (uK:_) (u:_) (N:_) (β:_),(ek=(if a3 c.aY 0 3 then [] else [1])++(if a3 c.post 0 255 then [] else [2])++(if c.post≠0/\c.e4=false then [3] else [])++(if c.aY=2/\c.post≠0 then [4] else []))/\aj Tryz.prog Tryz.f327.ntmps w0 ab u N β ⟨[(3,.v (R ek.length pM.1))],[]⟩ ac w/\ad w0 ab u N uK ek pM) ?_ ?_
  ·clear S;intro S
   refine S.lt 37 pt fun S=>?_
   exact S.dG 2 .nil fun ac w β S=>⟨rfl,gX,qA,rN,_,_,_,(by clear S;(first|(rw [if_pos (by assumption)];simp [*];done)|(rw [if_neg (by simp [*])];simp [*];done)|(rw [nc];(repeat' split)<;>first|rfl|(simp;done)|(exfalso;simp_all;done)|(simp_all;done)))),S.z,sI⟩
  clear S sI
  rintro ac w ⟨ek,pM,uK,u,N,β,jI,S,eC⟩
  have v7:ek.length<=4:=by rw [jI];(repeat' split)<;>simp
  refine S.ex fun S=>?_
  refine S.bo 8 .nil [R ek.length pM.1] fun ac w β S=>?_
  exact cy S (show m4 c=ek by clear S;(rw [jI];rfl)) rfl eC
 refine S.go 6 .nil fun ac w β S=>?_
 refine iw S (fun ac w=>∃(ek:List Int) (dP:_) (dX:_) (u:_) (N:_) (β:_),(ek=(if a3 c.aY 0 3 then [] else [1])++(if a3 c.post 0 255 then [] else [2])++(if c.post≠0/\c.e4=false then [3] else [])++(if c.aY=2/\c.post≠0 then [4] else []))/\aj Tryz.prog Tryz.f327.ntmps w0 ab u N β ⟨[(3,.v (R ek.length dP.1))],[]⟩ ac w/\ad w0 ab u N dX ek dP) ?_ ?_
 ·clear S;intro S
  exact S.dG 2 .nil fun ac w β S=>⟨rfl,gX,qA,rN,_,_,_,(by clear S;(first|(rw [if_pos (by assumption)];simp [*];done)|(rw [if_neg (by simp [*])];simp [*];done)|(rw [nc];(repeat' split)<;>first|rfl|(simp;done)|(exfalso;simp_all;done)|(simp_all;done)))),S.z,sI⟩
 clear S sI
 rintro ac w ⟨ek,dP,dX,u,N,β,jI,S,hW⟩
 have v7:ek.length<=4:=by rw [jI];(repeat' split)<;>simp
 refine S.ex fun S=>?_
 refine S.bo 8 .nil [R ek.length dP.1] fun ac w β S=>?_
 exact cy S (show m4 c=ek by clear S;(rw [jI];rfl)) rfl hW
theorem YB (w0:World) (c:fy):Calls Tryz.prog 291 [GT.val c ()].toArray w0 (fun e w'=>e= .returned (B (m5 c))/\bB ab w0 w'):=by
 refine Calls.run ab Tryz.func291 ?_
 intro ac β S
 refine S.go 9 .nil fun ac w β S=>S.cJ (r:=m4 c) (d:=4) (YA w c) fun ac w N af br S up aA d4=>?_
 clear up d4
 exact S.aq 6 .nil [B (((m4 c).length:Int)==0)] (a6 (by clear S;first|rfl|(simp [m5, *];done)|(simp [m5, *];omega)|(simp_all [m5];done)|(simp_all [m5];omega)))
theorem nf {p:Prop} (h:p:=by clear S;(unfold va;(repeat' split)<;>first|rfl|(exfalso;simp_all;done)|(exfalso;omega)|(rw [Bool.eq_iff_iff];simp [dg.ext_iff, *];done)|(rw [Bool.eq_iff_iff];simp_all [dg.ext_iff,and_assoc];done)|(rw [Bool.eq_iff_iff];simp_all [dg.ext_iff,and_assoc];omega))):p:=h
theorem YC (w0:World) (x:dg):Calls Tryz.prog 311 [GT.val x ()].toArray w0 (fun e w'=>e= .returned (B (va x))/\bB ab w0 w'):=by
 refine Calls.run ab Tryz.func311 ?_
 intro ac β S
 refine S.aI 21 .nil (x.kind==0) (fun ac w β h1 a8 S=>?_) (fun ac w β h1 a8 S=>?_)
 ·refine S.aI 10 .nil (x.page==0) (fun ac w β aF cC S=>?_) (fun ac w β aF cC S=>?_)
  ·refine S.bd 5 .nil (!x.wr) (fun ac w β bm S=>?_) (fun ac w β bm S=>?_)
   ·have cS:=cm bm
    exact S.aq 8 .nil [B (x.n==0)] (a6 nf)
   have cE:=b9 bm
   exact S.aq 8 .nil [B false] (a6 nf)
  exact S.aq 13 .nil [B false] (a6 nf)
 refine S.aI 6 .nil (x.kind==4) (fun ac w β dc fF S=>?_) (fun ac w β dc fF S=>?_)
 ·refine S.aI 7 .nil (x.page==0) (fun ac w β c2 eb S=>?_) (fun ac w β c2 eb S=>?_)
  ·refine S.bd 5 .nil (!x.wr) (fun ac w β ec S=>?_) (fun ac w β ec S=>?_)
   ·have jG:=cm ec
    exact S.aq 8 .nil [B (x.n==0)] (a6 nf)
   have ig:=b9 ec
   exact S.aq 8 .nil [B false] (a6 nf)
  exact S.aq 13 .nil [B false] (a6 nf)
 refine S.aI 7 .nil (x.kind==1) (fun ac w β oz pn S=>?_) (fun ac w β oz pn S=>?_)
 ·refine S.bd 7 (.cons (aE fun w hw=>hh w x.page 0 3) .nil) (a3 x.page 0 3) (fun ac w β jH S=>?_) (fun ac w β jH S=>?_)
  ·have po:=cV jH
   exact S.aq 8 .nil [B (x.n==0)] (a6 nf)
  have x_:=dn jH
  exact S.aq 8 .nil [B false] (a6 nf)
 refine S.aI 8 .nil (x.kind==2) (fun ac w β hp IV S=>?_) (fun ac w β hp IV S=>?_)
 ·refine S.bd 10 (.cons (aE fun w hw=>hh w x.n 0 99) .nil) (a3 x.n 0 99) (fun ac w β pr S=>?_) (fun ac w β pr S=>?_)
  ·have tv:=cV pr
   refine S.aI 5 .nil (x.page==0) (fun ac w β gR jF S=>?_) (fun ac w β gR jF S=>?_)
   ·exact S.aq 8 .nil [B (!x.wr)] (a6 nf)
   exact S.aq 8 .nil [B false] (a6 nf)
  have qe:=dn pr
  exact S.aq 13 .nil [B false] (a6 nf)
 refine S.aI 6 .nil (x.kind==3) (fun ac w β lS Aq S=>?_) (fun ac w β lS Aq S=>?_)
 ·refine S.bd 7 (.cons (aE fun w hw=>hh w x.n 0 99) .nil) (a3 x.n 0 99) (fun ac w β jf S=>?_) (fun ac w β jf S=>?_)
  ·have nW:=cV jf
   refine S.aI 5 .nil (x.page==0) (fun ac w β lT vf S=>?_) (fun ac w β lT vf S=>?_)
   ·exact S.aq 8 .nil [B (!x.wr)] (a6 nf)
   exact S.aq 8 .nil [B false] (a6 nf)
  have Ar:=dn jf
  exact S.aq 13 .nil [B false] (a6 nf)
 exact S.aq 10 .nil [B false] (a6 nf)
theorem su {p:Prop} (h:p:=by clear S;first|rfl|(simp [kC, *];done)|(simp [kC, *];omega)|(simp_all [kC];done)|(simp_all [kC];omega)):p:=h
theorem Pu (w0:World) (g:ax) (bf:c5) (aJ:bQ w0 g bf):Calls Tryz.prog 245 [GT.val g bf].toArray w0 (fun e w'=>e= .returned (B (kC g))/\bB ab w0 w'):=by
 refine Calls.run ab Tryz.func245 ?_
 intro ac β S
 have iE:g.prog.length<=4194304:=ae.le (az.prog (d:=g) aJ)
 have iG:g.written.length<=4194304:=ae.le (az.written (d:=g) aJ)
 have iD:g.live.length<=4194304:=ae.le (az.live (d:=g) aJ)
 have iF:g.seen.length<=4194304:=ae.le (az.seen (d:=g) aJ)
 refine S.bd 12 (.cons (aE fun w hw=>YS w g.prog bf.prog (bJ (az.prog (d:=g) (S.arg aJ)) hw)) .nil) (kf g.prog) (fun ac w β h1 S=>?_) (fun ac w β h1 S=>?_)
 ·refine S.bd 5 (.cons (aE fun w hw=>hh w g.acc 0 99) .nil) (a3 g.acc 0 99) (fun ac w β an S=>?_) (fun ac w β an S=>?_)
  ·have b7:=cV an
   refine S.bd 5 (.cons (aE fun w hw=>hh w g.aw 0 12) .nil) (a3 g.aw 0 12) (fun ac w β b1 S=>?_) (fun ac w β b1 S=>?_)
   ·have dJ:=cV b1
    refine S.bd 5 (.cons (aE fun w hw=>HG w g.written bf.written (bJ (az.written (d:=g) (S.arg aJ)) hw) 4 8 (by omega) (by omega)) .nil) (gZ g.written 4 8) (fun ac w β cS S=>?_) (fun ac w β cS S=>?_)
    ·have gH:=w3 cS
     refine S.bd 5 (.cons (aE fun w hw=>HG w g.live bf.live (bJ (az.live (d:=g) (S.arg aJ)) hw) 4 8 (by omega) (by omega)) .nil) (gZ g.live 4 8) (fun ac w β dc S=>?_) (fun ac w β dc S=>?_)
     ·have fF:=w3 dc
      refine S.bd 5 (.cons (aE fun w hw=>YB w g.aN) .nil) (m5 g.aN) (fun ac w β c2 S=>?_) (fun ac w β c2 S=>?_)
      ·refine S.bd 5 (.cons (aE fun w hw=>Dy w g.aC) .nil) (a3 g.aC 0 255) (fun ac w β eS S=>?_) (fun ac w β eS S=>?_)
       ·have ie:=cV eS
        refine S.bd 5 (.cons (aE fun w hw=>YC w g.exit) .nil) (va g.exit) (fun ac w β jG S=>?_) (fun ac w β jG S=>?_)
        ·exact S.aq 9 .nil [B (decide ((g.seen.length:Int)<=40))] (a6 su)
        exact S.aq 9 .nil [B false] (a6 su)
       have nV:=dn eS
       exact S.aq 14 .nil [B false] (a6 su)
      exact S.aq 19 .nil [B false] (a6 su)
     exact S.aq 24 .nil [B false] (a6 su)
    exact S.aq 29 .nil [B false] (a6 su)
   have lP:=dn b1
   exact S.aq 34 .nil [B false] (a6 su)
  have pn:=dn an
  exact S.aq 39 .nil [B false] (a6 su)
 exact S.aq 44 .nil [B false] (a6 su)
theorem Dz (w0:World) (r:Int):Calls Tryz.prog 312 [aa r].toArray w0 (fun e w'=>e= .returned (B (a3 r 0 3))/\bB ab w0 w'):=by
 refine Calls.run ab Tryz.func312 ?_
 intro ac β S
 exact S.aq 13 (.cons (aE fun w hw=>hh w r 0 3) .nil) [B (a3 r 0 3)] (a6 (by clear S;first|rfl|(simp [a3, *];done)|(simp [a3, *];omega)|(simp_all [a3];done)|(simp_all [a3];omega)))
theorem Ky {p:Prop} (h:p:=by clear S;first|rfl|(simp [fj, *];done)|(simp [fj, *];omega)|(simp_all [fj];done)|(simp_all [fj];omega)):p:=h
theorem xz (w0:World) (bg:Int) (need:Int):Calls Tryz.prog 247 [aa bg,aa need].toArray w0 (fun e w'=>e= .returned (B (fj bg need))/\bB ab w0 w'):=by
 refine Calls.run ab Tryz.func247 ?_
 intro ac β S
 refine S.bd 10 (.cons (aE fun w hw=>Dz w bg) .nil) (a3 bg 0 3) (fun ac w β h1 S=>?_) (fun ac w β h1 S=>?_)
 ·have a8:=cV h1
  refine S.bd 4 (.cons (aE fun w hw=>Dz w need) .nil) (a3 need 0 3) (fun ac w β aF S=>?_) (fun ac w β aF S=>?_)
  ·have cC:=cV aF
   exact S.aq 10 (.cons (qO (x:=bg) (y:=need)) .nil) [B ((jK bg need)==need)] (a6 Ky)
  have dJ:=dn aF
  exact S.aq 10 .nil [B false] (a6 Ky)
 have c6:=dn h1
 exact S.aq 14 .nil [B false] (a6 Ky)
theorem oK {p:Prop} (h:p:=by clear S;(symm;rw [←Bool.not_eq_true];intro hc;simp only [hS,ow,qY,Bool.and_eq_true,decide_eq_true_eq,beq_iff_eq] at hc;first|omega|(simp_all;done)|(simp_all;omega)|(have hx:=s9 (k:=k) hc.1.2 (by omega);simp_all;done)|(have hx:=Gd (k:=j) hc.2 (by omega);unfold nS at hx;split at hx<;>first|(simp_all;done)|(simp_all;omega)))):p:=h
theorem YN (w0:World) (m:aO) (pm:ft) (hm:bQ w0 m pm):Calls Tryz.prog 131 [GT.val m pm].toArray w0 (fun e w'=>e= .returned (B (hS m))/\bB ab w0 w'):=by
 refine Calls.run ab Tryz.func131 ?_
 intro ac β S
 have J1:m.outer.length<=4194304:=ae.le (aU.outer (d:=m) hm)
 have J0:m.out.length<=4194304:=ae.le (aU.out (d:=m) hm)
 have JY:m.aT.length<=4194304:=ae.le (aU.aT (d:=m) hm)
 have JZ:m.U.length<=4194304:=ae.le (aU.U (d:=m) hm)
 have J2:m.outs.length<=4194304:=ae.le (aU.outs (d:=m) hm)
 have J3:m.tables.length<=4194304:=ae.le (aU.tables (d:=m) hm)
 refine S.bd 15 (.cons (aE fun w hw=>hh w (m.U.length:Int) 1 2) .nil) (!(a3 (m.U.length:Int) 1 2)) (fun ac w β h1 S=>?_) (fun ac w β h1 S=>?_)
 ·have an:=cm h1
  have b7:=dn an
  exact S.aq 59 .nil [B false] (a6 oK)
 have b1:=b9 h1
 have dJ:=cV b1
 refine S.aI 9 .nil ((m.tables.length:Int) != (m.U.length:Int)) (fun ac w β cS gH S=>?_) (fun ac w β cS gH S=>?_)
 ·exact S.aq 50 .nil [B false] (a6 oK)
 refine S.bd 6 (.cons (aE fun w hw=>HG w m.outer pm.outer (bJ (aU.outer (d:=m) (S.arg hm)) hw) 8 12 (by omega) (by omega)) .nil) (!(gZ m.outer 8 12)) (fun ac w β dc S=>?_) (fun ac w β dc S=>?_)
 ·have ez:=cm dc
  exact S.aq 44 .nil [B false] (a6 oK)
 have c2:=b9 dc
 have eb:=w3 c2
 refine S.aI 6 .nil ((m.out.length:Int) != 8) (fun ac w β ec hC S=>?_) (fun ac w β ec hC S=>?_)
 ·exact S.aq 38 .nil [B false] (a6 oK)
 refine S.aI 6 .nil ((m.aT.length:Int) != 8) (fun ac w β ig lP S=>?_) (fun ac w β ig lP S=>?_)
 ·exact S.aq 32 .nil [B false] (a6 oK)
 refine S.aI 6 .nil (decide ((m.outs.length:Int)>40)) (fun ac w β lR IU S=>?_) (fun ac w β lR IU S=>?_)
 ·exact S.aq 26 .nil [B false] (a6 oK)
 refine S.bd 6 (.cons (aE fun w hw=>Dy w m.aC) .nil) (!(a3 m.aC 0 255)) (fun ac w β nX S=>?_) (fun ac w β nX S=>?_)
 ·have hU:=cm nX
  have m9:=dn hU
  exact S.aq 20 .nil [B false] (a6 oK)
 have lp:=b9 nX
 have ve:=cV lp
 refine S.bd 6 (.cons (aE fun w hw=>hh w m.aY 0 3) .nil) (!(a3 m.aY 0 3)) (fun ac w β r9 S=>?_) (fun ac w β r9 S=>?_)
 ·have gR:=cm r9
  have jF:=dn gR
  exact S.aq 14 .nil [B false] (a6 oK)
 have gS:=b9 r9
 have tw:=cV gS
 refine S.bd 7 (.cons (aE fun w hw=>hh w m.owned 0 1000000000) .nil) (!(a3 m.owned 0 1000000000)) (fun ac w β hD S=>?_) (fun ac w β hD S=>?_)
 ·have jf:=cm hD
  have nW:=dn jf
  exact S.aq 7 .nil [B false] (a6 oK)
 have lT:=b9 hD
 have vf:=cV lT
 refine S.go 13 .nil fun ac w β S=>?_
 refine c8 (fun a4 ac w=>∃(k:Nat) (u:_) (N:_) (β:_),a4=m.U.length-k/\(k<=m.U.length)/\((m.U.take k).all kC=true)/\aj Tryz.prog Tryz.f131.ntmps w0 ab u N β ⟨[(1,.p 0 0),(64,.v (R m.U.length pm.U.1)),(65,.v (aa (m.U.length:Int))),(66,.v (aa (k:Int)))],[GT.cells m pm]⟩ ac w) _ ⟨0,_,_,_,rfl,cw,(by simp),S.z⟩ ?_
 clear S
 rintro f33 a4 Ex ac w ⟨k,u,N,β,rfl,hk,he,S⟩
 refine S.rs fun S=>?_
 refine S.aI 6 .nil (decide ((k:Int)<(m.U.length:Int))) (fun ac w β kD pq S=>?_) (fun ac w β kD pq S=>?_)
 ·refine S.bd 20 (.cons (b5 (aU.U (d:=m) (S.arg hm)) k Tryz.underlying71) (.cons (dz (aU.U (d:=m) (S.arg hm)) 70 k) (.cons (aE fun w hw=>Pu w (el m.U k) (pm.U.2 k) (bJ (ae.el (aU.U (d:=m) (S.arg hm)) k (by omega)) hw)) .nil))) (!(kC (el m.U k))) (fun ac w β k4 S=>?_) (fun ac w β k4 S=>?_)
  ·have tA:=cm k4
   exact S.aq 7 .nil [B false] (a6 oK)
  have q1:=b9 k4
  refine S.ge 8 (.cons (cc (k:Int) 1) .nil) f33 fun ac w β S=>Ex.of (m.U.length-(k+1)) _ _ (by omega) ⟨k+1,_,_,_,rfl,?_,?_,S.z⟩
  ·exact cK
  ·clear S;exact pY (by omega) he (by first|assumption|(simp only [g8,a3] at*;simp_all;done)|(simp_all;done)|(simp_all;omega))
 refine S.go 16 .nil fun ac w β S=>?_
 refine c8 (fun a4 ac w=>∃(j:Nat) (u:_) (N:_) (β:_),a4=m.outer.length-j/\(j<=m.outer.length)/\((List.range j).all (nS m)=true)/\aj Tryz.prog Tryz.f131.ntmps w0 ab u N β ⟨[(1,.p 0 0),(75,.v (R m.outer.length pm.outer.1)),(76,.v (aa (m.outer.length:Int))),(77,.v (aa (j:Int)))],[GT.cells m pm]⟩ ac w) _ ⟨0,_,_,_,rfl,cw,(by rfl),S.z⟩ ?_
 clear S
 rintro f40 a4 SH ac w ⟨j,u,N,β,rfl,bZ,bC,S⟩
 refine S.rs fun S=>?_
 have yC:m.outer.length=8:=by omega
 have ae_:m.out.length=8:=by omega
 refine S.aI 6 .nil (decide ((j:Int)<(m.outer.length:Int))) (fun ac w β na yc S=>?_) (fun ac w β na yc S=>?_)
 ·refine S.bd 18 (.cons (b5 (aU.outer (d:=m) (S.arg hm)) j Tryz.underlying64) (.cons (dz (aU.outer (d:=m) (S.arg hm)) 111 j) (.cons (aE fun w hw=>nJ w) (.cons (qG (t:=111) (el m.outer j) (⟨-1,0⟩:aR) (by kernel_rfl)) .nil)))) (decide ((el m.outer j)=(⟨-1,0⟩:aR))) (fun ac w β Ax S=>?_) (fun ac w β Ax S=>?_)
  ·refine S.bd 12 (.cons (b5 (aU.out (d:=m) (S.arg hm)) j Tryz.underlying22) (.cons (cj (aU.out (d:=m) (S.arg hm)) 38 j) (.cons (aE fun w hw=>HE w (el m.out j) (pm.out.2 j) (bJ (ae.el (aU.out (d:=m) (S.arg hm)) j (by omega)) hw)) .nil))) (!(ho (el m.out j))) (fun ac w β qg S=>?_) (fun ac w β qg S=>?_)
   ·have oA:=cm qg
    exact S.aq 7 .nil [B false] (a6 oK)
   have r_:=b9 qg
   refine S.ge 8 (.cons (cc (j:Int) 1) .nil) f40 fun ac w β S=>SH.of (m.outer.length-(j+1)) _ _ (by omega) ⟨j+1,_,_,_,rfl,?_,?_,S.z⟩
   ·exact cK
   ·clear S;(refine rK bC ?_;unfold nS;(repeat' split)<;>first|(exfalso;simp_all;done)|(simp_all;done)|(simp_all;omega))
  refine S.bd 8 (.cons (aE fun w hw=>xz w (el m.outer j).bg 1) .nil) (!(fj (el m.outer j).bg 1)) (fun ac w β Ay S=>?_) (fun ac w β Ay S=>?_)
  ·have Ej:=cm Ay
   exact S.aq 17 .nil [B false] (a6 oK)
  have Az:=b9 Ay
  have Ry:=qU Az
  have amR:(el m.out j).length<=4194304:=ae.le (ae.el (aU.out (d:=m) (S.arg hm)) j (by omega))
  refine S.aI 10 (.cons (b5 (aU.out (d:=m) (S.arg hm)) j Tryz.underlying22) (.cons (cj (aU.out (d:=m) (S.arg hm)) 38 j) .nil)) (decide (((el m.out j).length:Int)>0)) (fun ac w β Jg acO S=>?_) (fun ac w β Jg acO S=>?_)
  ·exact S.aq 7 .nil [B false] (a6 oK)
  refine S.ge 8 (.cons (cc (j:Int) 1) .nil) f40 fun ac w β S=>SH.of (m.outer.length-(j+1)) _ _ (by omega) ⟨j+1,_,_,_,rfl,?_,?_,S.z⟩
  ·exact cK
  ·clear S;(refine rK bC ?_;unfold nS;(repeat' split)<;>first|(exfalso;simp_all;done)|(simp_all;done)|(simp_all;omega))
 exact S.aq 12 .nil [B true] (a6 (by clear S;(first|rfl|(symm;simp only [hS,ow,qY,Bool.and_eq_true,decide_eq_true_eq,beq_iff_eq];(repeat' apply And.intro);all_goals first|assumption|omega|(simp_all;done)|(simp_all;omega)|(exact eY (by omega) he)|((have kB:j=8:=(by omega));subst kB;exact bC)))))
theorem wj {p:Prop} (h:p:=by clear S;(first|(symm;rw [←Bool.not_eq_true];intro hc;simp only [eJ,qb,Bool.and_eq_true] at hc;(first|(simp_all;done)|(simp_all;omega)))|(rw [EG (x8 (k:=i) (by omega) CO hu (NT (by assumption)))])|(rw [EG (x8 (k:=i) (by omega) CO hu ((CP v8).trans (x8 (k:=k) (by omega) V9 oJ (NV (by omega) (by assumption)))))])|(unfold eJ tl qb;rw [ff (by omega)] at hu;rw [hu];simp_all;done))):p:=h
theorem Pw (w0:World) (h:ah) (ai:b_) (aX:bQ w0 h ai):Calls Tryz.prog 40 [GT.val h ai].toArray w0 (fun e w'=>e= .returned (B (eJ h))/\bB ab w0 w'):=by
 refine Calls.run ab Tryz.func40 ?_
 intro ac β S
 have lZ:h.mem.length<=4194304:=ae.le (bu.mem (d:=h) aX)
 have l0:h.I.length<=4194304:=ae.le (bu.I (d:=h) aX)
 have lX:h.buf.length<=4194304:=ae.le (bu.buf (d:=h) aX)
 have lY:h.ag.length<=4194304:=ae.le (bu.ag (d:=h) aX)
 refine S.bd 14 (.cons (aE fun w hw=>PA w h.mem ai.mem (bJ (bu.mem (d:=h) (S.arg aX)) hw) 12) .nil) (!(ib h.mem 12)) (fun ac w β h1 S=>?_) (fun ac w β h1 S=>?_)
 ·have an:=cm h1
  exact S.aq 27 .nil [B false] (a6 wj)
 have aF:=b9 h1
 refine S.bd 7 (.cons (aE fun w hw=>hh w (h.I.length:Int) 1 3) .nil) (!(a3 (h.I.length:Int) 1 3)) (fun ac w β b1 S=>?_) (fun ac w β b1 S=>?_)
 ·have bm:=cm b1
  have c6:=dn bm
  exact S.aq 20 .nil [B false] (a6 wj)
 have cE:=b9 b1
 have fl:=cV cE
 refine S.bd 6 (.cons (aE fun w hw=>Pn w h.buf ai.buf (bJ (bu.buf (d:=h) (S.arg aX)) hw)) .nil) (!(ot h.buf)) (fun ac w β ez S=>?_) (fun ac w β ez S=>?_)
 ·have c2:=cm ez
  exact S.aq 14 .nil [B false] (a6 wj)
 have eS:=b9 ez
 refine S.bd 7 (.cons (aE fun w hw=>Pn w h.ag ai.ag (bJ (bu.ag (d:=h) (S.arg aX)) hw)) .nil) (!(ot h.ag)) (fun ac w β ec S=>?_) (fun ac w β ec S=>?_)
 ·have jG:=cm ec
  exact S.aq 7 .nil [B false] (a6 wj)
 have ig:=b9 ec
 refine S.go 5 .nil fun ac w β S=>S.mT (α:=Bool) (m:=12) (by':=1) (d:=31) (by omega) (show 12<=4194304 by omega) fun ac w N jj pU S up ev d18=>?_
 clear up d18
 refine S.go 13 .nil fun ac w β S=>?_
 refine c8 (fun a4 ac w=>∃(i:Nat) (us:List Bool) (dy:_) (h4:_) (u:_) (N:_) (β:_),a4=h.I.length-i/\(i<=h.I.length)/\((h.I.take i).foldl pQ (some (List.replicate 12 false))=some us)/\(us.length=12)/\aj Tryz.prog Tryz.f40.ntmps w0 ab u N β ⟨[(3,.v (R 12 dy.1)),(33,.v (R h.I.length ai.I.1)),(34,.v (aa (h.I.length:Int))),(35,.v (aa (i:Int)))],[GT.cells h ai]⟩ ac w/\ad w0 ab u N h4 us dy) _ ⟨0,(List.replicate 12 (GT.eR:Bool)),jj,pU,_,_,_,rfl,cw,(by rfl),(by rfl),S.z,ev⟩ ?_
 clear S ev
 rintro f22 a4 JK ac w ⟨i,us,dy,h4,u,N,β,rfl,hi,hu,afy,S,il⟩
 refine S.rs fun S=>?_
 refine S.aI 6 .nil (decide ((i:Int)<(h.I.length:Int))) (fun ac w β gR jF S=>?_) (fun ac w β gR jF S=>?_)
 ·refine S.bd 21 (.cons (b5 (bu.I (d:=h) (S.arg aX)) i Tryz.underlying28) (.cons (dz (bu.I (d:=h) (S.arg aX)) 74 i) (.cons (aE fun w hw=>YN w (el h.I i) (ai.I.2 i) (bJ (ae.el (bu.I (d:=h) (S.arg aX)) i (by omega)) hw)) .nil))) (!(hS (el h.I i))) (fun ac w β gS S=>?_) (fun ac w β gS S=>?_)
  ·have lS:=cm gS
   exact S.aq 7 .nil [B false] (a6 wj)
  have hD:=b9 gS
  have lQ:=re hD
  have OZ:(el h.I i).outer.length<=4194304:=ae.le (aU.outer (d:=(el h.I i)) (ae.el (bu.I (d:=h) (S.arg aX)) i (by omega)))
  refine S.go 12 .nil fun ac w β S=>?_
  refine c8 (fun a4 ac w=>∃(k:Nat) (ko:List Bool) (kS:_) (mR:_) (u:_) (N:_) (β:_),a4=(el h.I i).outer.length-k/\(k<=(el h.I i).outer.length)/\(((el h.I i).outer.take k).foldl oa (some us)=some ko)/\(ko.length=12)/\aj Tryz.prog Tryz.f40.ntmps w0 ab u N β ⟨[(3,.v (R 12 kS.1)),(33,.v (R h.I.length ai.I.1)),(34,.v (aa (h.I.length:Int))),(35,.v (aa (i:Int))),(43,.v (R (el h.I i).outer.length (ai.I.2 i).outer.1)),(44,.v (aa ((el h.I i).outer.length:Int))),(45,.v (aa (k:Int)))],[GT.cells h ai,GT.cells (el h.I i) (ai.I.2 i)]⟩ ac w/\ad w0 ab u N mR ko kS) _ ⟨0,us,dy,h4,_,_,_,rfl,cw,(by rfl),(by omega),S.z,il⟩ ?_
  clear S il
  rintro f34 a4 SG ac w ⟨k,ko,kS,mR,u,N,β,rfl,hk,oJ,afz,S,gz⟩
  refine S.rs fun S=>?_
  have v8:hS (el h.I i)=true:=by assumption
  have wc:=Vs v8 k
  have afe:=(re v8).1
  refine S.aI 6 .nil (decide ((k:Int)<((el h.I i).outer.length:Int))) (fun ac w β yp yb S=>?_) (fun ac w β yp yb S=>?_)
  ·refine S.aI 21 (.cons (b5 (aU.outer (d:=(el h.I i)) (ae.el (bu.I (d:=h) (S.arg aX)) i (by omega))) k Tryz.underlying64) (.cons (dz (aU.outer (d:=(el h.I i)) (ae.el (bu.I (d:=h) (S.arg aX)) i (by omega))) 111 k) .nil)) (decide ((el (el h.I i).outer k).page<0)) (fun ac w β tA As S=>?_) (fun ac w β tA As S=>?_)
   ·refine S.ge 9 (.cons (cc (k:Int) 1) .nil) f34 fun ac w β S=>SG.of ((el h.I i).outer.length-(k+1)) _ _ (by omega) ⟨k+1,ko,kS,mR,_,_,_,rfl,?_,?_,?_,S.z,gz⟩
    ·exact cK
    ·clear S;(rw [tt (by omega),oJ];first|exact CQ (by omega)|exact sW (by omega) (by assumption)|exact sW (by omega) (by simp_all))
    ·clear S;(first|omega|(simp;omega))
   refine S.bd 13 (.cons (eP gz.ak (l:=12) (k:=(el (el h.I i).outer k).page.toNat) (i:=(el (el h.I i).outer k).page) (by omega) (by omega) (by omega) Tryz.underlying39 (by kernel_rfl)) (.cons (cj gz.ak 4 ((el (el h.I i).outer k).page.toNat)) .nil)) (el ko (el (el h.I i).outer k).page.toNat) (fun ac w β lU S=>?_) (fun ac w β lU S=>?_)
   ·exact S.aq 7 .nil [B false] (a6 wj)
   refine S.go 8 (.cons (eP gz.ak (l:=12) (k:=(el (el h.I i).outer k).page.toNat) (i:=(el (el h.I i).outer k).page) (by omega) (by omega) (by omega) Tryz.underlying39 (by kernel_rfl)) .nil) fun ac w β S=>S.fQ (α:=Bool) gz (t:=4) (k:=(el (el h.I i).outer k).page.toNat) (j:=0) (off:=kS.1.off+(el (el h.I i).outer k).page.toNat*1) (v:=B true) (y:=true) (q:=()) (fun _ _ _=>⟨ab,trivial,fun _ h=>False.elim h⟩) fun w N zA k9 S up qv d44 aqO ahp=>?_
   clear up d44 gz ahp
   have T9:(ko.set (el (el h.I i).outer k).page.toNat true).length=ko.length:=List.length_set
   refine S.ge 7 (.cons (cc (k:Int) 1) .nil) f34 fun ac w β S=>SG.of ((el h.I i).outer.length-(k+1)) _ _ (by omega) ⟨k+1,(ko.set (el (el h.I i).outer k).page.toNat true),(kS.1,k9),zA,_,_,_,rfl,?_,?_,?_,S.z,qv⟩
   ·exact cK
   ·clear S;(rw [tt (by omega),oJ];first|exact CQ (by omega)|exact sW (by omega) (by assumption)|exact sW (by omega) (by simp_all))
   ·clear S;(first|omega|(simp;omega))
  refine S.ge 11 (.cons (cc (i:Int) 1) .nil) f22 fun ac w β S=>JK.of (h.I.length-(i+1)) _ _ (by omega) ⟨i+1,ko,kS,mR,_,_,_,rfl,?_,?_,?_,S.z,gz⟩
  ·exact cK
  ·clear S;(rw [tt (by omega),hu,CP (by assumption)];rw [ff (by omega)] at oJ;exact oJ)
  ·clear S;omega
 exact S.aq 12 .nil [B true] (a6 wj)
theorem Tx {p:Prop} (h:p:=by clear S;first|rfl|(simp [lN, *];done)|(simp [lN, *];omega)|(simp_all [lN];done)|(simp_all [lN];omega)):p:=h
theorem Po (w0:World) (g:ax) (bf:c5) (aJ:bQ w0 g bf):Calls Tryz.prog 132 [GT.val g bf].toArray w0 (fun e w'=>e= .returned (B (lN g))/\bB ab w0 w'):=by
 refine Calls.run ab Tryz.func132 ?_
 intro ac β S
 have iE:g.prog.length<=4194304:=ae.le (az.prog (d:=g) aJ)
 have iG:g.written.length<=4194304:=ae.le (az.written (d:=g) aJ)
 have iD:g.live.length<=4194304:=ae.le (az.live (d:=g) aJ)
 have iF:g.seen.length<=4194304:=ae.le (az.seen (d:=g) aJ)
 refine S.bd 13 (.cons (fY (s:=Instr.build 68 [].toArray) (v:= .agg [aa 0,aa 0,B false,aa 0].toArray) (fun w=>by kernel_rfl)) (.cons (C2 (t:=68) g.exit (⟨0,0,false,0⟩:dg) (by kernel_rfl)) .nil)) (decide (g.exit=(⟨0,0,false,0⟩:dg))) (fun ac w β h1 S=>?_) (fun ac w β h1 S=>?_)
 ·exact S.aq 8 .nil [B (!g.halted)] (a6 Tx)
 exact S.aq 8 .nil [B false] (a6 Tx)
theorem TG {p:Prop} (h:p:=by clear S;(first|(exact(N1 (by assumption)).symm)|(unfold gr;rw [if_pos (by assumption)];done))):p:=h
theorem PG (w0:World) (p:Int):Calls Tryz.prog 248 [aa p].toArray w0 (fun e w'=>e= .returned (aa (gr p))/\bB ab w0 w'):=by
 refine Calls.run ab Tryz.func248 ?_
 intro ac β S
 refine S.bd 13 (.cons (aE fun w hw=>Dy w p) .nil) (!(a3 p 0 255)) (fun ac w β h1 S=>?_) (fun ac w β h1 S=>?_)
 ·have an:=cm h1
  have b7:=dn an
  exact S.aq 7 .nil [aa (-1)] (b4 TG)
 have b1:=b9 h1
 have dJ:=cV b1
 have Hy:=Yd p
 exact S.aq 13 (.cons (Hp (s:=3) (d:=185) (x:=p) Tryz.underlying3 Tryz.underlying185 (by omega) (by omega)) (.cons (aE fun w hw=>ZN w p (by omega) (by omega)) (.cons (hf (qW p) 1) .nil))) [aa ((qW p)-1)] (b4 TG)
theorem PF (w0:World) (g:ax) (bf:c5) (aJ:bQ w0 g bf):Calls Tryz.prog 133 [GT.val g bf].toArray w0 (fun e w'=>e= .returned (B (nT g))/\bB ab w0 w'):=by
 refine Calls.run ab Tryz.func133 ?_
 intro ac β S
 have iE:g.prog.length<=4194304:=ae.le (az.prog (d:=g) aJ)
 have iG:g.written.length<=4194304:=ae.le (az.written (d:=g) aJ)
 have iD:g.live.length<=4194304:=ae.le (az.live (d:=g) aJ)
 have iF:g.seen.length<=4194304:=ae.le (az.seen (d:=g) aJ)
 refine S.bd 11 (.cons (aE fun w hw=>Po w g bf (bJ (S.arg aJ) hw)) .nil) (lN g) (fun ac w β h1 S=>?_) (fun ac w β h1 S=>?_)
 ·refine S.bd 5 .nil g.aN.e4 (fun ac w β an S=>?_) (fun ac w β an S=>?_)
  ·have p0:=CV g.aC
   exact S.aq 9 (.cons (aE fun w hw=>PG w g.aC) .nil) [B (decide ((gr g.aC)>=0))] (a6 (by clear S;(simp [nT, *])))
  exact S.aq 9 .nil [B false] (a6 (by clear S;(simp [nT, *])))
 exact S.aq 14 .nil [B false] (a6 (by clear S;(simp [nT, *])))
theorem Ty {p:Prop} (h:p:=by clear S;(first|(unfold bG;rw [if_pos (by omega)];done)|(unfold bG;rw [if_pos (by omega)];first|rfl|(simp;done))|(unfold bG;rw [if_neg (by omega)];done)|(unfold bG;rw [if_neg (by omega)];first|rfl|(simp;done)))):p:=h
theorem uS (w0:World) (p:List da) (pp:aD da) (bC:bQ w0 p pp) (aw:Int):Calls Tryz.prog 134 [R p.length pp.1,aa aw].toArray w0 (fun e w'=>e= .returned (GT.val (bG p aw) ())/\bB ab w0 w'):=by
 refine Calls.run ab Tryz.func134 ?_
 intro ac β S
 have J5:p.length<=4194304:=ae.le bC
 refine S.bd 15 (.cons (aE fun w hw=>js w aw (p.length:Int) (by omega)) .nil) (!(a3 aw 0 ((p.length:Int)-1))) (fun ac w β h1 S=>?_) (fun ac w β h1 S=>?_)
 ·have an:=cm h1
  have b7:=dn an
  exact S.aq 8 (.cons (fY (s:=Instr.build 128 [(0,aa 7)].toArray) (v:= .agg [aa 7,aa 0].toArray) (fun w=>by kernel_rfl)) .nil) [GT.val (⟨7,0⟩:da) ()] (hX (p:=()) Ty)
 have b1:=b9 h1
 have dJ:=cV b1
 exact S.aq 13 (.cons (cq (S.arg bC) aw Tryz.underlying63) (.cons (dz (S.arg bC) 128 aw.toNat) .nil)) [GT.val (el p aw.toNat) ()] (hX (p:=()) Ty)
theorem tK {p:Prop} (h:p:=by clear S;(unfold bY;first|(rw [if_pos (by assumption)];done)|(rw [if_neg (by simp [*]),if_pos (by assumption)];done)|(rw [if_neg (by simp [*]),if_neg (by simp [*])];unfold D9;first|(rw [if_pos (by assumption)];done)|(rw [if_neg (by assumption),if_pos (by assumption)];done)|(rw [if_neg (by assumption),if_neg (by assumption),if_pos (by assumption)];done)|(rw [if_neg (by assumption),if_neg (by assumption),if_neg (by assumption),if_pos (by assumption)];done)|(rw [if_neg (by assumption),if_neg (by assumption),if_neg (by assumption),if_neg (by assumption),if_pos (by assumption)];done)|(rw [if_neg (by assumption),if_neg (by assumption),if_neg (by assumption),if_neg (by assumption),if_neg (by assumption)];done)))):p:=h
theorem zZ (w0:World) (g:ax) (bf:c5) (aJ:bQ w0 g bf):Calls Tryz.prog 42 [GT.val g bf].toArray w0 (fun e w'=>e= .returned (aa (bY g))/\bB ab w0 w'):=by
 refine Calls.run ab Tryz.func42 ?_
 intro ac β S
 have iE:g.prog.length<=4194304:=ae.le (az.prog (d:=g) aJ)
 have iG:g.written.length<=4194304:=ae.le (az.written (d:=g) aJ)
 have iD:g.live.length<=4194304:=ae.le (az.live (d:=g) aJ)
 have iF:g.seen.length<=4194304:=ae.le (az.seen (d:=g) aJ)
 refine S.bd 16 (.cons (aE fun w hw=>Po w g bf (bJ (S.arg aJ) hw)) .nil) (!(lN g)) (fun ac w β h1 S=>?_) (fun ac w β h1 S=>?_)
 ·have an:=cm h1
  exact S.aq 7 .nil [aa 0] (b4 tK)
 have aF:=b9 h1
 refine S.bd 8 (.cons (aE fun w hw=>PF w g bf (bJ (S.arg aJ) hw)) .nil) (nT g) (fun ac w β b1 S=>?_) (fun ac w β b1 S=>?_)
 ·exact S.aq 7 .nil [aa 1] (b4 tK)
 refine S.aI 22 (.cons (aE fun w hw=>uS w g.prog bf.prog (bJ (az.prog (d:=g) (S.arg aJ)) hw) g.aw) .nil) ((bG g.prog g.aw).eL==3) (fun ac w β bm c6 S=>?_) (fun ac w β bm c6 S=>?_)
 ·exact S.aq 7 .nil [aa 3] (b4 tK)
 refine S.aI 7 .nil ((bG g.prog g.aw).eL==4) (fun ac w β cE fl S=>?_) (fun ac w β cE fl S=>?_)
 ·exact S.aq 7 .nil [aa 4] (b4 tK)
 refine S.aI 7 .nil ((bG g.prog g.aw).eL==5) (fun ac w β ez iU S=>?_) (fun ac w β ez iU S=>?_)
 ·exact S.aq 7 .nil [aa 5] (b4 tK)
 refine S.aI 7 .nil ((bG g.prog g.aw).eL==6) (fun ac w β eS ie S=>?_) (fun ac w β eS ie S=>?_)
 ·exact S.aq 7 .nil [aa 6] (b4 tK)
 refine S.aI 7 .nil ((bG g.prog g.aw).eL==7) (fun ac w β jG nV S=>?_) (fun ac w β jG nV S=>?_)
 ·exact S.aq 7 .nil [aa 7] (b4 tK)
 exact S.aq 10 .nil [aa 2] (b4 tK)
theorem Kv {p:Prop} (h:p:=by clear S;(unfold bn;first|(rw [if_pos (by first|exact Or.inl (by assumption)|exact Or.inr (by assumption)|omega)];done)|(rw [if_neg (by omega)];done))):p:=h
theorem Pl (w0:World) (g:ax) (bf:c5) (aJ:bQ w0 g bf):Calls Tryz.prog 43 [GT.val g bf].toArray w0 (fun e w'=>e= .returned (aa (bn g))/\bB ab w0 w'):=by
 refine Calls.run ab Tryz.func43 ?_
 intro ac β S
 have iE:g.prog.length<=4194304:=ae.le (az.prog (d:=g) aJ)
 have iG:g.written.length<=4194304:=ae.le (az.written (d:=g) aJ)
 have iD:g.live.length<=4194304:=ae.le (az.live (d:=g) aJ)
 have iF:g.seen.length<=4194304:=ae.le (az.seen (d:=g) aJ)
 have hP:=uz g
 refine S.aI 19 (.cons (aE fun w hw=>zZ w g bf (bJ (S.arg aJ) hw)) .nil) ((bY g) != 3) (fun ac w β an b7 S=>?_) (fun ac w β an b7 S=>?_)
 ·refine S.aI 5 .nil ((bY g) != 4) (fun ac w β b1 dJ S=>?_) (fun ac w β b1 dJ S=>?_)
  ·exact S.aq 7 .nil [aa (-1)] (b4 Kv)
  exact S.aq 15 (.cons (aE fun w hw=>uS w g.prog bf.prog (bJ (az.prog (d:=g) (S.arg aJ)) hw) g.aw) .nil) [aa (bG g.prog g.aw).x] (b4 Kv)
 exact S.aq 20 (.cons (aE fun w hw=>uS w g.prog bf.prog (bJ (az.prog (d:=g) (S.arg aJ)) hw) g.aw) .nil) [aa (bG g.prog g.aw).x] (b4 Kv)
theorem Tv {p:Prop} (h:p:=by clear S;(first|(unfold ct;rw [if_pos (by omega)];done)|(unfold ct;rw [if_pos (by omega)];first|rfl|(simp;done))|(unfold ct;rw [if_neg (by omega)];done)|(unfold ct;rw [if_neg (by omega)];first|rfl|(simp;done)))):p:=h
theorem zX (w0:World) (addr:Int) (oC:a_ addr):Calls Tryz.prog 45 [aa addr].toArray w0 (fun e w'=>e= .returned (aa (ct addr))/\bB ab w0 w'):=by
 refine Calls.run ab Tryz.func45 ?_
 intro ac β S
 have J7:=oC.lo;have JO:=oC.hi
 refine S.aI 12 .nil (decide (addr<0)) (fun ac w β h1 a8 S=>?_) (fun ac w β h1 a8 S=>?_)
 ·exact S.aq 7 .nil [aa (-1)] (b4 Tv)
 exact S.aq 11 (.cons (OG (x:=addr) (y:=4) (by decide) (Wk oC (by omega))) .nil) [aa (Int.tdiv addr 4)] (b4 Tv)
theorem HC (w0:World) (write:Bool):Calls Tryz.prog 46 [B write].toArray w0 (fun e w'=>e= .returned (aa (dD write))/\bB ab w0 w'):=by
 refine Calls.run ab Tryz.func46 ?_
 intro ac β S
 refine S.bd 11 .nil write (fun ac w β h1 S=>?_) (fun ac w β h1 S=>?_)
 ·exact S.aq 7 .nil [aa 2] (b4 (by clear S;(simp [dD, *])))
 exact S.aq 9 .nil [aa 1] (b4 (by clear S;(simp [dD, *])))
theorem TF {p:Prop} (h:p:=by clear S;(first|(unfold eV;rw [if_pos (by omega)])|(unfold eV;rw [if_neg (by omega)]))):p:=h
theorem HF (w0:World) (t:List aR) (bh:aD aR) (bx:bQ w0 t bh) (page:Int):Calls Tryz.prog 256 [R t.length bh.1,aa page].toArray w0 (fun e w'=>e= .returned (GT.val (eV t page) ())/\bB ab w0 w'):=by
 refine Calls.run ab Tryz.func256 ?_
 intro ac β S
 have Bh:t.length<=4194304:=ae.le bx
 refine S.bd 15 (.cons (aE fun w hw=>js w page (t.length:Int) (by omega)) .nil) (!(a3 page 0 ((t.length:Int)-1))) (fun ac w β h1 S=>?_) (fun ac w β h1 S=>?_)
 ·have an:=cm h1
  have b7:=dn an
  exact S.aq 8 (.cons (aE fun w hw=>nJ w) .nil) [GT.val (⟨-1,0⟩:aR) ()] (hX (p:=()) TF)
 have b1:=b9 h1
 have dJ:=cV b1
 exact S.aq 13 (.cons (cq (S.arg bx) page Tryz.underlying64) (.cons (dz (S.arg bx) 111 page.toNat) .nil)) [GT.val (el t page.toNat) ()] (hX (p:=()) TF)
theorem tJ {p:Prop} (h:p:=by clear S;(unfold cW;(repeat' split)<;>first|rfl|(exfalso;omega)|(exfalso;simp_all;done)|(exfalso;simp_all;omega))):p:=h
theorem PH (w0:World) (inner:List aR) (jh:aD aR) (k5:bQ w0 inner jh) (page:Int) (need:Int):Calls Tryz.prog 149 [R inner.length jh.1,aa page,aa need].toArray w0 (fun e w'=>e= .returned (.tuple #[aa (cW inner page need).1,B (cW inner page need).2])/\bB ab w0 w'):=by
 refine Calls.run ab Tryz.func149 ?_
 intro ac β S
 have Bg:inner.length<=4194304:=ae.le k5
 refine S.aI 22 (.cons (aE fun w hw=>HF w inner jh (bJ (S.arg k5) hw) page) .nil) ((eV inner page).page==(-1)) (fun ac w β h1 a8 S=>?_) (fun ac w β h1 a8 S=>?_)
 ·exact S.aq 21 .nil [aa (-1),B false] (jm (h_ (show(-1)=(cW inner page need).1 from tJ)) (jB (show false=(cW inner page need).2 from tJ)))
 refine S.bd 7 (.cons (aE fun w hw=>xz w (eV inner page).bg need) .nil) (!(fj (eV inner page).bg need)) (fun ac w β aF S=>?_) (fun ac w β aF S=>?_)
 ·have b1:=cm aF
  exact S.aq 14 .nil [aa (-1),B false] (jm (h_ (show(-1)=(cW inner page need).1 from tJ)) (jB (show false=(cW inner page need).2 from tJ)))
 have bm:=b9 aF
 have c6:=qU bm
 refine S.bd 6 (.cons (aE fun w hw=>hh w need 1 3) .nil) (!(a3 need 1 3)) (fun ac w β cE S=>?_) (fun ac w β cE S=>?_)
 ·have dc:=cm cE
  have fF:=dn dc
  exact S.aq 8 .nil [aa (-1),B false] (jm (h_ (show(-1)=(cW inner page need).1 from tJ)) (jB (show false=(cW inner page need).2 from tJ)))
 have c2:=b9 cE
 have eb:=cV c2
 exact S.aq 12 .nil [aa (eV inner page).page,B true] (jm (h_ (show(eV inner page).page=(cW inner page need).1 from tJ)) (jB (show true=(cW inner page need).2 from tJ)))
theorem KB {p:Prop} (h:p:=by clear S;(first|(unfold bR;rw [if_pos (by omega)];done)|(unfold bR;rw [if_pos (by omega)];first|rfl|(simp;done))|(unfold bR;rw [if_neg (by omega)];done)|(unfold bR;rw [if_neg (by omega)];first|rfl|(simp;done)))):p:=h
theorem YW (w0:World) (m:Int) (g:Int):Calls Tryz.prog 191 [aa m,aa g].toArray w0 (fun e w'=>e= .returned (aa (bR m g))/\bB ab w0 w'):=by
 refine Calls.run ab Tryz.func191 ?_
 intro ac β S
 refine S.bd 12 (.cons (aE fun w hw=>js w m 3 (by omega)) .nil) (!(a3 m 0 (3-1))) (fun ac w β h1 S=>?_) (fun ac w β h1 S=>?_)
 ·have an:=cm h1
  have b7:=dn an
  exact S.aq 13 .nil [aa 0] (b4 KB)
 have b1:=b9 h1
 have dJ:=cV b1
 refine S.bd 6 (.cons (aE fun w hw=>js w g 2 (by omega)) .nil) (!(a3 g 0 (2-1))) (fun ac w β cS S=>?_) (fun ac w β cS S=>?_)
 ·have cE:=cm cS
  have fl:=dn cE
  exact S.aq 7 .nil [aa 0] (b4 KB)
 have ez:=b9 cS
 have iU:=cV ez
 exact S.aq 14 (.cons (cc 1 g) (.cons (OF (x:=m) (y:=2) ⟨by omega,by omega⟩) (.cons (cc (1+g) (m*2)) .nil))) [aa ((1+g)+(m*2))] (b4 KB)
theorem EX {p:Prop} (h:p:=by clear S;(first|(rw [Rg (by omega) bc];done)|(rw [Rh (k:=k) (by omega) bc (CK (by assumption) (by assumption))];done))):p:=h
theorem YE (w0:World) (b:List aH) (bD:aD aH) (hb:bQ w0 b bD) (tag:Int) (page:Int):Calls Tryz.prog 249 [R b.length bD.1,aa tag,aa page].toArray w0 (fun e w'=>e= .returned (.tuple #[GT.val (dt b tag page).1 (),B (dt b tag page).2])/\bB ab w0 w'):=by
 refine Calls.run ab Tryz.func249 ?_
 intro ac β S
 have kG:b.length<=4194304:=ae.le hb
 refine S.go 15 .nil fun ac w β S=>?_
 refine c8 (fun a4 ac w=>∃(k:Nat) (u:_) (N:_) (β:_),a4=b.length-k/\(k<=b.length)/\((b.take k).find? (fun e=>ic e tag page)=none)/\aj Tryz.prog Tryz.f249.ntmps w0 ab u N β ⟨[(1,.v (aa tag)),(2,.v (aa page)),(6,.p 0 0),(10,.v (R b.length bD.1)),(11,.v (aa (b.length:Int))),(12,.v (aa (k:Int)))],[cg aH]⟩ ac w) _ ⟨0,_,_,_,rfl,cw,(by rfl),S.z⟩ ?_
 clear S
 rintro f1 a4 fm ac w ⟨k,u,N,β,rfl,hk,bc,S⟩
 refine S.rs fun S=>?_
 refine S.aI 6 .nil (decide ((k:Int)<(b.length:Int))) (fun ac w β aF cC S=>?_) (fun ac w β aF cC S=>?_)
 ·refine S.aI 20 (.cons (b5 (S.arg hb) k Tryz.underlying29) (.cons (dz (S.arg hb) 138 k) .nil)) ((el b k).tag==tag) (fun ac w β bm c6 S=>?_) (fun ac w β bm c6 S=>?_)
  ·refine S.aI 7 .nil ((el b k).page==page) (fun ac w β cE fl S=>?_) (fun ac w β cE fl S=>?_)
   ·exact S.aq 9 .nil [GT.val (el b k) (),B true] (jm (congrArg (fun z=>GT.val z ()) (show(el b k)=(dt b tag page).1 from EX)) (jB (show true=(dt b tag page).2 from EX)))
   refine S.ge 8 (.cons (cc (k:Int) 1) .nil) f1 fun ac w β S=>fm.of (b.length-(k+1)) _ _ (by omega) ⟨k+1,_,_,_,rfl,?_,?_,S.z⟩
   ·exact cK
   ·clear S;(first|exact tq (by omega) bc (sT (by assumption))|exact tq (by omega) bc (wY (by assumption)))
  refine S.ge 15 (.cons (cc (k:Int) 1) .nil) f1 fun ac w β S=>fm.of (b.length-(k+1)) _ _ (by omega) ⟨k+1,_,_,_,rfl,?_,?_,S.z⟩
  ·exact cK
  ·clear S;(first|exact tq (by omega) bc (sT (by assumption))|exact tq (by omega) bc (wY (by assumption)))
 exact S.aq 14 (.cons (fY (s:=Instr.build 138 [].toArray) (v:= .agg [aa 0,aa 0,aa 0,aa 0].toArray) (fun w=>by kernel_rfl)) .nil) [GT.val (⟨0,0,0,0⟩:aH) (),B false] (jm (congrArg (fun z=>GT.val z ()) (show(⟨0,0,0,0⟩:aH)=(dt b tag page).1 from EX)) (jB (show false=(dt b tag page).2 from EX)))
theorem tH {p:Prop} (h:p:=by clear S;(unfold aV;(repeat' split)<;>first|rfl|(exfalso;omega)|(exfalso;simp_all;done)|(exfalso;simp_all;omega)|(simp_all;done))):p:=h
theorem Pm (w0:World) (k:bS) (et:fx) (hk:bQ w0 k et) (page:Int):Calls Tryz.prog 250 [GT.val k et,aa page].toArray w0 (fun e w'=>e= .returned (.tuple #[GT.val (aV k page).1 (),B (aV k page).2])/\bB ab w0 w'):=by
 refine Calls.run ab Tryz.func250 ?_
 intro ac β S
 have q4:k.known.length<=4194304:=ae.le (ey.known (d:=k) hk)
 have q5:k.aZ.length<=4194304:=ae.le (ey.aZ (d:=k) hk)
 refine S.bd 17 (.cons (aE fun w hw=>js w page (k.known.length:Int) (by omega)) .nil) (!(a3 page 0 ((k.known.length:Int)-1))) (fun ac w β h1 S=>?_) (fun ac w β h1 S=>?_)
 ·have an:=cm h1
  have b7:=dn an
  exact S.aq 26 (.cons (aE fun w hw=>nJ w) .nil) [GT.val (⟨-1,0⟩:aR) (),B false] (jm (congrArg (fun z=>GT.val z ()) (show(⟨-1,0⟩:aR)=(aV k page).1 from tH)) (jB (show false=(aV k page).2 from tH)))
 have b1:=b9 h1
 have dJ:=cV b1
 refine S.bd 8 (.cons (aE fun w hw=>js w page (k.aZ.length:Int) (by omega)) .nil) (!(a3 page 0 ((k.aZ.length:Int)-1))) (fun ac w β cS S=>?_) (fun ac w β cS S=>?_)
 ·have cE:=cm cS
  have fl:=dn cE
  exact S.aq 18 (.cons (aE fun w hw=>nJ w) .nil) [GT.val (⟨-1,0⟩:aR) (),B false] (jm (congrArg (fun z=>GT.val z ()) (show(⟨-1,0⟩:aR)=(aV k page).1 from tH)) (jB (show false=(aV k page).2 from tH)))
 have ez:=b9 cS
 have iU:=cV ez
 refine S.bd 9 (.cons (cq (ey.known (d:=k) (S.arg hk)) page Tryz.underlying39) (.cons (cj (ey.known (d:=k) (S.arg hk)) 4 page.toNat) .nil)) (!(el k.known page.toNat)) (fun ac w β eS S=>?_) (fun ac w β eS S=>?_)
 ·have ec:=cm eS
  exact S.aq 9 (.cons (aE fun w hw=>nJ w) .nil) [GT.val (⟨-1,0⟩:aR) (),B false] (jm (congrArg (fun z=>GT.val z ()) (show(⟨-1,0⟩:aR)=(aV k page).1 from tH)) (jB (show false=(aV k page).2 from tH)))
 have jG:=b9 eS
 exact S.aq 15 (.cons (cq (ey.aZ (d:=k) (S.arg hk)) page Tryz.underlying64) (.cons (dz (ey.aZ (d:=k) (S.arg hk)) 111 page.toNat) .nil)) [GT.val (el k.aZ page.toNat) (),B true] (jm (congrArg (fun z=>GT.val z ()) (show(el k.aZ page.toNat)=(aV k page).1 from tH)) (jB (show true=(aV k page).2 from tH)))
theorem yO {p:Prop} (h:p:=by clear S;(first|rw [My (by omega)]|rw [U8 (he.trans (Ms (by omega)))]|rw [Mz (by omega),he,U3 (by omega) (kF.trans (Mu (by omega) (by assumption)))])):p:=h
theorem PB (w0:World) (h:ah) (ai:b_) (aX:bQ w0 h ai) (page:Int):Calls Tryz.prog 329 [GT.val h ai,aa page].toArray w0 (fun e w'=>e= .returned (.tuple #[aa (ea h page).1,aa (ea h page).2])/\bB ab w0 w'):=by
 refine Calls.run ab Tryz.func329 ?_
 intro ac β S
 have lZ:h.mem.length<=4194304:=ae.le (bu.mem (d:=h) aX)
 have l0:h.I.length<=4194304:=ae.le (bu.I (d:=h) aX)
 have lX:h.buf.length<=4194304:=ae.le (bu.buf (d:=h) aX)
 have lY:h.ag.length<=4194304:=ae.le (bu.ag (d:=h) aX)
 refine S.aI 14 .nil (decide (page<0)) (fun ac w β h1 a8 S=>?_) (fun ac w β h1 a8 S=>?_)
 ·exact S.aq 8 .nil [aa (-1),aa (-1)] (jm (h_ (show(-1)=(ea h page).1 from yO)) (h_ (show(-1)=(ea h page).2 from yO)))
 refine S.go 13 .nil fun ac w β S=>?_
 refine c8 (fun a4 ac w=>∃(i:Nat) (u:_) (N:_) (β:_),a4=h.I.length-i/\(i<=h.I.length)/\(iz h.I page 0=iz h.I page i)/\aj Tryz.prog Tryz.f329.ntmps w0 ab u N β ⟨[(1,.v (aa page)),(13,.v (R h.I.length ai.I.1)),(14,.v (aa (h.I.length:Int))),(15,.v (aa (i:Int)))],[GT.cells h ai]⟩ ac w) _ ⟨0,_,_,_,rfl,cw,cw,S.z⟩ ?_
 clear S
 rintro f3 a4 iC ac w ⟨i,u,N,β,rfl,hi,he,S⟩
 refine S.rs fun S=>?_
 refine S.aI 6 .nil (decide ((i:Int)<(h.I.length:Int))) (fun ac w β bm c6 S=>?_) (fun ac w β bm c6 S=>?_)
 ·have s_:(el h.I i).outer.length<=4194304:=ae.le (aU.outer (d:=(el h.I i)) (ae.el (bu.I (d:=h) (S.arg aX)) i (by omega)))
  refine S.go 24 (.cons (b5 (bu.I (d:=h) (S.arg aX)) i Tryz.underlying28) (.cons (dz (bu.I (d:=h) (S.arg aX)) 74 i) .nil)) fun ac w β S=>?_
  refine c8 (fun a4 ac w=>∃(k:Nat) (u:_) (N:_) (β:_),a4=(el h.I i).outer.length-k/\(k<=(el h.I i).outer.length)/\(j2 (el h.I i).outer page 0=j2 (el h.I i).outer page k)/\aj Tryz.prog Tryz.f329.ntmps w0 ab u N β ⟨[(1,.v (aa page)),(6,.v (aa (i:Int))),(13,.v (R h.I.length ai.I.1)),(14,.v (aa (h.I.length:Int))),(15,.v (aa (i:Int))),(21,.v (R (el h.I i).outer.length (ai.I.2 i).outer.1)),(22,.v (aa ((el h.I i).outer.length:Int))),(23,.v (aa (k:Int)))],[GT.cells h ai,GT.cells (el h.I i) (ai.I.2 i)]⟩ ac w) _ ⟨0,_,_,_,rfl,cw,cw,S.z⟩ ?_
  clear S
  rintro f8 a4 e0 ac w ⟨k,u,N,β,rfl,hk,kF,S⟩
  refine S.rs fun S=>?_
  have Bf:(el h.I i).outer.length<=4194304:=ae.le (aU.outer (d:=el h.I i) (ae.el (bu.I (d:=h) aX) i (by omega)))
  refine S.aI 6 .nil (decide ((k:Int)<((el h.I i).outer.length:Int))) (fun ac w β c2 eb S=>?_) (fun ac w β c2 eb S=>?_)
  ·refine S.aI 23 (.cons (b5 (aU.outer (d:=(el h.I i)) (ae.el (bu.I (d:=h) (S.arg aX)) i (by omega))) k Tryz.underlying64) (.cons (dz (aU.outer (d:=(el h.I i)) (ae.el (bu.I (d:=h) (S.arg aX)) i (by omega))) 111 k) .nil)) ((el (el h.I i).outer k).page==page) (fun ac w β ec hC S=>?_) (fun ac w β ec hC S=>?_)
   ·exact S.aq 10 .nil [aa (i:Int),aa (k:Int)] (jm (h_ (show(i:Int)=(ea h page).1 from yO)) (h_ (show(k:Int)=(ea h page).2 from yO)))
   refine S.ge 8 (.cons (cc (k:Int) 1) .nil) f8 fun ac w β S=>e0.of ((el h.I i).outer.length-(k+1)) _ _ (by omega) ⟨k+1,_,_,_,rfl,?_,?_,S.z⟩
   ·exact cK
   ·clear S;exact kF.trans (Mv (by omega) (by assumption))
  refine S.ge 11 (.cons (cc (i:Int) 1) .nil) f3 fun ac w β S=>iC.of (h.I.length-(i+1)) _ _ (by omega) ⟨i+1,_,_,_,rfl,?_,?_,S.z⟩
  ·exact cK
  ·clear S;exact he.trans (U4 (by omega) (kF.trans (Mt (by omega))))
 exact S.aq 13 .nil [aa (-1),aa (-1)] (jm (h_ (show(-1)=(ea h page).1 from yO)) (h_ (show(-1)=(ea h page).2 from yO)))
theorem Pt (w0:World) (h:ah) (ai:b_) (aX:bQ w0 h ai):Calls Tryz.prog 294 [GT.val h ai].toArray w0 (dw ab w0 (en h:List Int)):=by
 refine Calls.run ab Tryz.func294 ?_
 intro ac β S
 have lZ:h.mem.length<=4194304:=ae.le (bu.mem (d:=h) aX)
 have l0:h.I.length<=4194304:=ae.le (bu.I (d:=h) aX)
 have lX:h.buf.length<=4194304:=ae.le (bu.buf (d:=h) aX)
 have lY:h.ag.length<=4194304:=ae.le (bu.ag (d:=h) aX)
 refine S.go 8 .nil fun ac w β S=>S.gE (α:=Int) (d:=7) fun ac w N af br S up aA d4=>?_
 clear up d4
 refine S.go 13 .nil fun ac w β S=>?_
 refine c8 (fun a4 ac w=>∃(k:Nat) (acc:List Int) (bM:_) (cT:_) (u:_) (N:_) (β:_),a4=h.mem.length-k/\(k<=h.mem.length)/\(acc=lO k (fun p=>decide ((ea h p).1<0)))/\aj Tryz.prog Tryz.f294.ntmps w0 ab u N β ⟨[(1,.p 0 0),(3,.v (R acc.length bM.1)),(10,.v (aa (h.mem.length:Int))),(11,.v (aa (k:Int)))],[GT.cells h ai]⟩ ac w/\ad w0 ab u N cT acc bM) _ ⟨0,([]:List Int),af,br,_,_,_,rfl,cw,(by rfl),S.z,aA⟩ ?_
 clear S aA
 rintro f8 a4 e0 ac w ⟨k,acc,bM,cT,u,N,β,rfl,hk,bz,S,ao⟩
 refine S.rs fun S=>?_
 have gI:acc.length<=k:=by rw [bz];exact yN _ _
 refine S.aI 6 .nil (decide ((k:Int)<(h.mem.length:Int))) (fun ac w β c2 eb S=>?_) (fun ac w β c2 eb S=>?_)
 ·refine S.aI 29 (.cons (aE fun w hw=>PB w h ai (bJ (S.arg aX) hw) (k:Int)) .nil) (decide ((ea h (k:Int)).1<0)) (fun ac w β ec hC S=>?_) (fun ac w β ec hC S=>?_)
  ·refine S.go 4 .nil fun ac w β S=>S.h3 (α:=Int) (x:=(k:Int)) (p:=()) (F:=ab) ⟨by omega,by omega⟩ (fun b h=>False.elim h) (fun b h=>False.elim h) (d:=24) fun ac w N n6 pT S up gK d17=>?_
   replace ao:=ao.up up
   clear up d17
   refine S.kq (α:=Int) ao gK.ak (fun _ _ h=>h) (by':=8) (d:=25) (lx:=acc.length) (ly:=1) rfl rfl (show _<=4194304 by simp only [List.length_append,List.length_cons,List.length_nil];omega) fun ac w N dy h4 S up il d22=>?_
   clear up d22
   refine S.ge 8 (.cons (cc (k:Int) 1) .nil) f8 fun ac w β S=>e0.of (h.mem.length-(k+1)) _ _ (by omega) ⟨k+1,(acc++[(k:Int)]),dy,h4,_,_,_,rfl,?_,?_,S.z,il⟩
   ·exact cK
   ·clear S;(first|(rw [mD (by first|assumption|(simp [*];done)|(simp;omega)),bz];done)|(rw [mC (by first|assumption|(simp [*];done)|(simp;omega)),bz];done)|(rw [mD (by simp_all<;>fail),bz];done)|(rw [mC (by simp_all<;>fail),bz];done))
  refine S.ge 8 (.cons (cc (k:Int) 1) .nil) f8 fun ac w β S=>e0.of (h.mem.length-(k+1)) _ _ (by omega) ⟨k+1,acc,bM,cT,_,_,_,rfl,?_,?_,S.z,ao⟩
  ·exact cK
  ·clear S;(first|(rw [mD (by first|assumption|(simp [*];done)|(simp;omega)),bz];done)|(rw [mC (by first|assumption|(simp [*];done)|(simp;omega)),bz];done)|(rw [mD (by simp_all<;>fail),bz];done)|(rw [mC (by simp_all<;>fail),bz];done))
 refine S.bo 13 .nil [R acc.length bM.1] fun ac w β S=>?_
 exact cy S (show en h=acc by clear S;(unfold en;rw [bz,show h.mem.length=k by omega])) rfl ao
theorem TB {p:Prop} (h:p:=by clear S;(first|(unfold hn;rw [if_pos (by omega)];done)|(unfold hn;rw [if_pos (by omega)];first|rfl|(simp;done))|(unfold hn;rw [if_neg (by omega)];done)|(unfold hn;rw [if_neg (by omega)];first|rfl|(simp;done)))):p:=h
theorem HD (w0:World) (m:List (List Int)) (pm:aD (List Int)) (hm:bQ w0 m pm) (page:Int):Calls Tryz.prog 257 [R m.length pm.1,aa page].toArray w0 (dw ab w0 (hn m page:List Int)):=by
 refine Calls.run ab Tryz.func257 ?_
 intro ac β S
 have q6:m.length<=4194304:=ae.le hm
 refine S.bd 15 (.cons (aE fun w hw=>js w page (m.length:Int) (by omega)) .nil) (!(a3 page 0 ((m.length:Int)-1))) (fun ac w β h1 S=>?_) (fun ac w β h1 S=>?_)
 ·have an:=cm h1
  have b7:=dn an
  refine S.go 3 .nil fun ac w β S=>S.mT (α:=Int) (m:=4) (by':=8) (d:=10) (by omega) (show 4<=4194304 by omega) fun ac w N qz dU S up bL d7=>?_
  clear up d7
  refine S.bo 4 .nil [R 4 qz.1] fun ac w β S=>?_
  exact cy S (show hn m page=(List.replicate 4 (GT.eR:Int)) from TB) (by rw [show 4=(List.replicate 4 (GT.eR:Int)).length from(by simp)];rfl) bL
 have dc:=b9 h1
 have fF:=cV dc
 refine S.go 9 (.cons (cq (S.arg hm) page Tryz.underlying22) (.cons (cj (S.arg hm) 38 page.toNat) .nil)) fun ac w β S=>S.cJ (r:=(el m page.toNat)) (d:=15) (xB w (el m page.toNat) (pm.2 page.toNat) (S.rd (ae.el (S.arg hm) page.toNat (by omega)))) fun ac w N eM eh S up bA d13=>?_
 clear up d13
 refine S.bo 4 .nil [R (el m page.toNat).length eM.1] fun ac w β S=>?_
 exact cy S (show hn m page=(el m page.toNat) from TB) rfl bA
theorem YY (w0:World) (t:List aR) (bh:aD aR) (bx:bQ w0 t bh) (page:Int):Calls Tryz.prog 330 [R t.length bh.1,aa page].toArray w0 (dw ab w0 (gy t page:List Int)):=by
 refine Calls.run ab Tryz.func330 ?_
 intro ac β S
 have Bh:t.length<=4194304:=ae.le bx
 refine S.go 7 .nil fun ac w β S=>S.gE (α:=Int) (d:=8) fun ac w N af br S up aA d4=>?_
 clear up d4
 refine S.go 12 .nil fun ac w β S=>?_
 refine c8 (fun a4 ac w=>∃(k:Nat) (acc:List Int) (bM:_) (cT:_) (u:_) (N:_) (β:_),a4=t.length-k/\(k<=t.length)/\(acc=lO k (fun i=>decide ((el t i).page=page)))/\aj Tryz.prog Tryz.f330.ntmps w0 ab u N β ⟨[(1,.v (aa page)),(5,.v (R acc.length bM.1)),(9,.v (R t.length bh.1)),(10,.v (aa (t.length:Int))),(11,.v (aa (k:Int)))],[]⟩ ac w/\ad w0 ab u N cT acc bM) _ ⟨0,([]:List Int),af,br,_,_,_,rfl,cw,(by rfl),S.z,aA⟩ ?_
 clear S aA
 rintro f8 a4 e0 ac w ⟨k,acc,bM,cT,u,N,β,rfl,hk,bz,S,ao⟩
 refine S.rs fun S=>?_
 have gI:acc.length<=k:=by rw [bz];exact yN _ _
 refine S.aI 6 .nil (decide ((k:Int)<(t.length:Int))) (fun ac w β c2 eb S=>?_) (fun ac w β c2 eb S=>?_)
 ·refine S.aI 23 (.cons (b5 (S.arg bx) k Tryz.underlying64) (.cons (dz (S.arg bx) 111 k) .nil)) ((el t k).page==page) (fun ac w β ec hC S=>?_) (fun ac w β ec hC S=>?_)
  ·refine S.go 4 .nil fun ac w β S=>S.h3 (α:=Int) (x:=(k:Int)) (p:=()) (F:=ab) ⟨by omega,by omega⟩ (fun b h=>False.elim h) (fun b h=>False.elim h) (d:=22) fun ac w N n6 pT S up gK d17=>?_
   replace ao:=ao.up up
   clear up d17
   refine S.kq (α:=Int) ao gK.ak (fun _ _ h=>h) (by':=8) (d:=23) (lx:=acc.length) (ly:=1) rfl rfl (show _<=4194304 by simp only [List.length_append,List.length_cons,List.length_nil];omega) fun ac w N dy h4 S up il d22=>?_
   clear up d22
   refine S.ge 8 (.cons (cc (k:Int) 1) .nil) f8 fun ac w β S=>e0.of (t.length-(k+1)) _ _ (by omega) ⟨k+1,(acc++[(k:Int)]),dy,h4,_,_,_,rfl,?_,?_,S.z,il⟩
   ·exact cK
   ·clear S;(first|(rw [mD (by first|assumption|(simp [*];done)|(simp;omega)),bz];done)|(rw [mC (by first|assumption|(simp [*];done)|(simp;omega)),bz];done)|(rw [mD (by simp_all<;>fail),bz];done)|(rw [mC (by simp_all<;>fail),bz];done))
  refine S.ge 8 (.cons (cc (k:Int) 1) .nil) f8 fun ac w β S=>e0.of (t.length-(k+1)) _ _ (by omega) ⟨k+1,acc,bM,cT,_,_,_,rfl,?_,?_,S.z,ao⟩
  ·exact cK
  ·clear S;(first|(rw [mD (by first|assumption|(simp [*];done)|(simp;omega)),bz];done)|(rw [mC (by first|assumption|(simp [*];done)|(simp;omega)),bz];done)|(rw [mD (by simp_all<;>fail),bz];done)|(rw [mC (by simp_all<;>fail),bz];done))
 refine S.bo 13 .nil [R acc.length bM.1] fun ac w β S=>?_
 exact cy S (show gy t page=acc by clear S;(unfold gy;rw [bz,show t.length=k by omega])) rfl ao
theorem Kz {p:Prop} (h:p:=by clear S;(unfold ke;(repeat' split)<;>first|rfl|(exfalso;omega)|(exfalso;simp_all;done))):p:=h
theorem YH (w0:World) (k:bS) (et:fx) (hk:bQ w0 k et) (page:Int):Calls Tryz.prog 189 [GT.val k et,aa page].toArray w0 (dw ab w0 (ke k page:bS)):=by
 refine Calls.run ab Tryz.func189 ?_
 intro ac β S
 have q4:k.known.length<=4194304:=ae.le (ey.known (d:=k) hk)
 have q5:k.aZ.length<=4194304:=ae.le (ey.aZ (d:=k) hk)
 refine S.go 9 .nil fun ac w β S=>S.cJ (r:=k) (d:=7) (DA w k et (S.rd (S.arg hk))) fun ac w N af br S up aA d4=>?_
 clear up d4
 obtain⟨dU,e7,bL,bF,_,_,d11⟩:=uu aA
 refine S.bd 13 (.cons (aE fun w hw=>js w page (k.known.length:Int) (by omega)) .nil) (a3 page 0 ((k.known.length:Int)-1)) (fun ac w β ec S=>?_) (fun ac w β ec S=>?_)
 ·have hC:=cV ec
  refine S.bd 8 (.cons (aE fun w hw=>js w page (k.aZ.length:Int) (by omega)) .nil) (a3 page 0 ((k.aZ.length:Int)-1)) (fun ac w β ig S=>?_) (fun ac w β ig S=>?_)
  ·have lP:=cV ig
   refine S.go 7 (.cons (cq bL.ak page Tryz.underlying39) .nil) fun ac w β S=>S.fQ (α:=Bool) bL (t:=4) (k:=page.toNat) (j:=0) (off:=af.known.1.off+page.toNat*1) (v:=B false) (y:=false) (q:=()) (fun _ _ _=>⟨ab,trivial,fun _ h=>False.elim h⟩) fun w N cD j6 S up gK d19 ajZ Lz=>?_
   have d22:=d19 _ (J.symm d11) (fun b _ h=>False.elim h) bF.sub
   replace bF:=bF.bk (J.symm d11) up
   clear up d19 bL Lz
   have BA:(k.known.set page.toNat false).length=k.known.length:=List.length_set
   replace S:=S.z (σ':=⟨[(1,.v (aa page)),(4,.p 1 0),(5,.p 2 0),(23,.v (bh af.known.1.b (af.known.1.off+page.toNat*1)))],[GT.cells k et,cg bS,[R k.known.length af.known.1,R k.aZ.length af.aZ.1]]⟩)
   replace S:=S.cast (σ':=⟨[(1,.v (aa page)),(4,.p 1 0),(5,.p 2 0),(23,.v (bh af.known.1.b (af.known.1.off+page.toNat*1)))],[GT.cells k et,cg bS,[R (k.known.set page.toNat false).length af.known.1,R k.aZ.length af.aZ.1]]⟩) (by rw [show(k.known.set page.toNat false).length=k.known.length by omega])
   refine S.is fun S=>?_
   refine S.go 2 .nil fun ac w β S=>?_
   refine dI ?_
   refine S.dR (f:=6) 5 (by kernel_rfl) (by kernel_rfl) fun w S=>?_
   refine S.hm 3 [0,1,2] [] [(25,.v (R k.aZ.length af.aZ.1)),(26,.v (aa page))] .nil fun ac S=>?_
   refine S.iN 3 [] [(27,.v (GT.val (⟨-1,0⟩:aR) ()))] 3 [] (.cons (aE fun w hw=>nJ w) .nil) fun ac w β S=>?_
   refine S.a9 4 [4] [] [(28,.v (bh af.aZ.1.b (af.aZ.1.off+page.toNat*2)))] (.cons (cq bF.ak page Tryz.underlying64) .nil) fun ac S=>?_
   refine ar.one (i:=5) (by kernel_rfl) ?_
   have abe:ed (el k.aZ page.toNat):=(ae.el bF.ak page.toNat (by omega))
   refine id (S.zi (α:=aR) bF (t:=111) (k:=page.toNat) (j:=0) (off:=af.aZ.1.off+page.toNat*2) (v:=GT.val (⟨-1,0⟩:aR) ()) (y:=(⟨-1,0⟩:aR)) (q:=()) (fun _ _ _=>⟨ab,(show ed ⟨-1,0⟩ from⟨⟨by decide,by decide⟩,⟨by decide,by decide⟩⟩),fun _ h=>False.elim h⟩) fun w N lI e9 S up dm d28 NF BE=>?_)
   refine ar.last (by kernel_rfl) ?_
   have d31:=d28 _ (J.symm d22) (fun b _ h=>False.elim h) gK.sub
   replace gK:=gK.bk (J.symm d22) up
   clear up d28 bF BE
   have Le:(k.aZ.set page.toNat (⟨-1,0⟩:aR)).length=k.aZ.length:=List.length_set
   replace S:=S.z (σ':=⟨[(4,.p 1 0),(5,.p 2 0),(27,.v (GT.val (⟨-1,0⟩:aR) ())),(28,.v (bh af.aZ.1.b (af.aZ.1.off+page.toNat*2)))],[GT.cells k et,cg bS,[R (k.known.set page.toNat false).length af.known.1,R k.aZ.length af.aZ.1]]⟩)
   replace S:=S.cast (σ':=⟨[(4,.p 1 0),(5,.p 2 0),(27,.v (GT.val (⟨-1,0⟩:aR) ())),(28,.v (bh af.aZ.1.b (af.aZ.1.off+page.toNat*2)))],[GT.cells k et,cg bS,[R (k.known.set page.toNat false).length af.known.1,R (k.aZ.set page.toNat (⟨-1,0⟩:aR)).length af.aZ.1]]⟩) (by rw [show(k.aZ.set page.toNat (⟨-1,0⟩:aR)).length=k.aZ.length by omega])
   refine ar.done (by kernel_rfl) ?_ _
   refine S.ex fun S=>?_
   refine S.bo 8 .nil [GT.val (⟨(k.known.set page.toNat false),(k.aZ.set page.toNat (⟨-1,0⟩:aR))⟩:bS) (⟨(af.known.1,j6),(af.aZ.1,e9)⟩:fx)] fun ac w β S=>?_
   have gz:=ma (x:=(⟨(k.known.set page.toNat false),(k.aZ.set page.toNat (⟨-1,0⟩:aR))⟩:bS)) (p:=(⟨(af.known.1,j6),(af.aZ.1,e9)⟩:fx)) gK dm d31
   exact cy S (show ke k page=(⟨(k.known.set page.toNat false),(k.aZ.set page.toNat (⟨-1,0⟩:aR))⟩:bS) from Kz) rfl gz
  have r8:=dn ig
  refine S.bo 10 .nil [GT.val k af] fun ac w β S=>?_
  have BX:=ma (x:=k) (p:=af) bL bF d11
  exact cy S (show ke k page=k from Kz) rfl BX
 have pq:=dn ec
 refine S.bo 18 .nil [GT.val k af] fun ac w β S=>?_
 have iJ:=ma (x:=k) (p:=af) bL bF d11
 exact cy S (show ke k page=k from Kz) rfl iJ
theorem YI (w0:World) (k:bS) (et:fx) (hk:bQ w0 k et) (inner:List aR) (jh:aD aR) (k5:bQ w0 inner jh) (page:Int):Calls Tryz.prog 297 [GT.val k et,R inner.length jh.1,aa page].toArray w0 (dw ab w0 (nO k inner page:bS)):=by
 refine Calls.run ab Tryz.func297 ?_
 intro ac β S
 have q4:k.known.length<=4194304:=ae.le (ey.known (d:=k) hk)
 have q5:k.aZ.length<=4194304:=ae.le (ey.aZ (d:=k) hk)
 have Bg:inner.length<=4194304:=ae.le k5
 refine S.go 9 .nil fun ac w β S=>S.cJ (r:=k) (d:=11) (DA w k et (S.rd (S.arg hk))) fun ac w N af br S up aA d4=>?_
 clear up d4
 obtain⟨dU,e7,bL,bF,_,_,d11⟩:=uu aA
 refine S.go 9 .nil fun ac w β S=>S.cJ (r:=gy inner page) (d:=14) (YY w inner jh (S.rd (S.arg k5)) page) fun ac w N jP gf S up c3 d15=>?_
 have d16:=J.w d15 bL.sub
 have d17:=J.w d15 bF.sub
 replace bL:=bL.up up
 replace bF:=bF.up up
 clear up d15
 refine S.go 5 .nil fun ac w β S=>?_
 refine c8 (fun a4 ac w=>∃(i:Nat) (iH:List Bool) (c_:List aR) (j6:_) (kr:_) (c9:_) (fJ:_) (u:_) (N:_) (β:_),a4=(gy inner page).length-i/\(i<=(gy inner page).length)/\((⟨iH,c_⟩:bS)=((gy inner page).take i).foldl ke k)/\aj Tryz.prog Tryz.f297.ntmps w0 ab u N β ⟨[(6,.p 1 0),(7,.p 2 0),(14,.v (R (gy inner page).length jP.1)),(15,.v (aa ((gy inner page).length:Int))),(16,.v (aa (i:Int)))],[GT.cells k et,cg bS,[R iH.length j6.1,R c_.length c9.1]]⟩ ac w/\ad w0 ab u N kr iH j6/\ad w0 ab u N fJ c_ c9/\ad w0 ab u N gf (gy inner page) jP/\J kr fJ/\J kr gf/\J fJ gf) _ ⟨0,k.known,k.aZ,af.known,dU,af.aZ,e7,_,_,_,rfl,cw,(by rfl),S.z,bL,bF,c3,d11,d16,d17⟩ ?_
 clear S c3 bL bF
 rintro f27 a4 A_ ac w ⟨i,iH,c_,j6,kr,c9,fJ,u,N,β,rfl,hi,bc,S,dK,bb,c3,d24,d25,d26⟩
 refine S.rs fun S=>?_
 have afx:(gy inner page).length<=inner.length:=yN _ _
 refine S.aI 6 .nil (decide ((i:Int)<((gy inner page).length:Int))) (fun ac w β jf nW S=>?_) (fun ac w β jf nW S=>?_)
 ·refine S.go 15 (.cons (b5 c3.ak i Tryz.underlying38) (.cons (cj c3.ak 3 i) .nil)) fun ac w β S=>S.cJ (r:=ke (⟨iH,c_⟩:bS) (el (gy inner page) i)) (d:=22) (YH w (⟨iH,c_⟩:bS) (⟨j6,c9⟩:fx) (S.rd (show GT.rd b6 _ _ (⟨iH,c_⟩:bS) (⟨j6,c9⟩:fx) from⟨dK.ak,bb.ak⟩)) (el (gy inner page) i)) fun ac w N kS mR S up gz d34=>?_
  have d37:=J.w d34 c3.sub
  replace dK:=dK.up up
  replace bb:=bb.up up
  replace c3:=c3.up up
  clear up d34
  obtain⟨lb,mS,wF,jO,Gi,NI,d44⟩:=uu gz
  refine S.ge 8 (.cons (cc (i:Int) 1) .nil) f27 fun ac w β S=>A_.of ((gy inner page).length-(i+1)) _ _ (by omega) ⟨i+1,(ke (⟨iH,c_⟩:bS) (el (gy inner page) i)).known,(ke (⟨iH,c_⟩:bS) (el (gy inner page) i)).aZ,kS.known,lb,kS.aZ,mS,_,_,_,rfl,?_,?_,S.z,wF,jO,c3,d44,(J.part (J.symm d37) Gi),(J.part (J.symm d37) NI)⟩
  ·exact cK
  ·clear S;(rw [tt (by omega),←bc])
 refine S.bo 13 .nil [GT.val (⟨iH,c_⟩:bS) (⟨j6,c9⟩:fx)] fun ac w β S=>?_
 have dO:=ma (x:=(⟨iH,c_⟩:bS)) (p:=(⟨j6,c9⟩:fx)) dK bb d24
 exact cy S (show nO k inner page=(⟨iH,c_⟩:bS) by clear S;(unfold nO;rw [Rq (by omega)] at bc;exact bc.symm)) rfl dO
theorem YF (w0:World) (tj:aH) (host:Int) (rE:aD Int) (q3:bQ w0 [host] rE):Calls Tryz.prog 331 [GT.val tj (),bh rE.1.b (rE.1.off+0*1)].toArray w0 (fun e w'=>e= .returned (B (nR tj host))/\bB ab w0 w'):=by
 refine Calls.run ab Tryz.func331 ?_
 intro ac β S
 exact S.aq 16 (.cons (Dh (S.arg q3) (t:=3) (k:=0) (Nat.succ_pos 0) rfl (by kernel_rfl)) .nil) [B (tj.host==host)] (a6 (by clear S;rfl))
theorem YG (w0:World) (tj:aH) (tag:Int) (rG:aD Int) (q8:bQ w0 [tag] rG) (page:Int) (rF:aD Int) (hG:bQ w0 [page] rF):Calls Tryz.prog 285 [GT.val tj (),bh rG.1.b (rG.1.off+0*1),bh rF.1.b (rF.1.off+0*1)].toArray w0 (fun e w'=>e= .returned (B (ic tj tag page))/\bB ab w0 w'):=by
 refine Calls.run ab Tryz.func285 ?_
 intro ac β S
 refine S.aI 13 (.cons (Dh (S.arg q8) (t:=3) (k:=0) (Nat.succ_pos 0) rfl (by kernel_rfl)) .nil) (tj.tag==tag) (fun ac w β h1 a8 S=>?_) (fun ac w β h1 a8 S=>?_)
 ·exact S.aq 9 (.cons (Dh (S.arg hG) (t:=3) (k:=0) (Nat.succ_pos 0) rfl (by kernel_rfl)) .nil) [B (tj.page==page)] (a6 (by clear S;(first|(rw [sT (by assumption)];done)|(unfold ic;simp [*];done))))
 exact S.aq 9 .nil [B false] (a6 (by clear S;(first|(rw [sT (by assumption)];done)|(unfold ic;simp [*];done))))
theorem Y7 (w0:World) (b:List aH) (bD:aD aH) (hb:bQ w0 b bD) (host:Int) (rE:aD Int) (q3:bQ w0 [host] rE):Calls Tryz.prog 284 [R b.length bD.1,.func (.func 331) #[] #[bh rE.1.b (rE.1.off+0*1)]].toArray w0 (dw ab w0 (jE b (fun e=>nR e host):List aH)):=by
 refine Calls.run ab Tryz.func284 ?_
 intro ac β S
 have kG:b.length<=4194304:=ae.le hb
 refine S.go 7 .nil fun ac w β S=>S.gE (α:=aH) (d:=8) fun ac w N af br S up aA d4=>?_
 clear up d4
 refine S.go 12 .nil fun ac w β S=>?_
 refine c8 (fun a4 ac w=>∃(k:Nat) (acc:List aH) (bM:_) (cT:_) (u:_) (N:_) (β:_),a4=b.length-k/\(k<=b.length)/\(acc=jE (b.take k) (fun e=>nR e host))/\aj Tryz.prog Tryz.f284.ntmps w0 ab u N β ⟨[(1,.v (.func (.func 331) #[] #[bh rE.1.b (rE.1.off+0*1)])),(5,.v (R acc.length bM.1)),(9,.v (R b.length bD.1)),(10,.v (aa (b.length:Int))),(11,.v (aa (k:Int)))],[]⟩ ac w/\ad w0 ab u N cT acc bM) _ ⟨0,([]:List aH),af,br,_,_,_,rfl,cw,(by rfl),S.z,aA⟩ ?_
 clear S aA
 rintro f8 a4 e0 ac w ⟨k,acc,bM,cT,u,N,β,rfl,hk,bz,S,ao⟩
 refine S.rs fun S=>?_
 have gI:acc.length<=k:=by rw [bz];exact Nat.le_trans (w5 _ _) (List.length_take_le _ _)
 refine S.aI 6 .nil (decide ((k:Int)<(b.length:Int))) (fun ac w β c2 eb S=>?_) (fun ac w β c2 eb S=>?_)
 ·refine S.bd 21 (.cons (b5 (S.arg hb) k Tryz.underlying29) (.cons (dz (S.arg hb) 138 k) (.cons (aE fun w hw=>YF w (el b k) host rE (bJ (S.arg q3) hw)) .nil))) (!(nR (el b k) host)) (fun ac w β ec S=>?_) (fun ac w β ec S=>?_)
  ·have jG:=cm ec
   refine S.go 4 .nil fun ac w β S=>S.h3 (α:=aH) (x:=(el b k)) (p:=()) (F:=ab) (ae.el (S.arg hb) k (by omega)) (fun b h=>False.elim h) (fun b h=>False.elim h) (d:=21) fun ac w N n6 pT S up gK d17=>?_
   replace ao:=ao.up up
   clear up d17
   refine S.kq (α:=aH) ao gK.ak (fun _ _ h=>h) (by':=32) (d:=22) (lx:=acc.length) (ly:=1) rfl rfl (show _<=4194304 by simp only [List.length_append,List.length_cons,List.length_nil];omega) fun ac w N dy h4 S up il d22=>?_
   clear up d22
   refine S.ge 8 (.cons (cc (k:Int) 1) .nil) f8 fun ac w β S=>e0.of (b.length-(k+1)) _ _ (by omega) ⟨k+1,(acc++[(el b k)]),dy,h4,_,_,_,rfl,?_,?_,S.z,il⟩
   ·exact cK
   ·clear S;(first|(rw [s0 (by omega) (by assumption),bz];done)|(rw [pS (by omega) (by assumption),bz];done))
  have gR:=b9 ec
  refine S.ge 8 (.cons (cc (k:Int) 1) .nil) f8 fun ac w β S=>e0.of (b.length-(k+1)) _ _ (by omega) ⟨k+1,acc,bM,cT,_,_,_,rfl,?_,?_,S.z,ao⟩
  ·exact cK
  ·clear S;(first|(rw [s0 (by omega) (by assumption),bz];done)|(rw [pS (by omega) (by assumption),bz];done))
 refine S.bo 13 .nil [R acc.length bM.1] fun ac w β S=>?_
 exact cy S (show jE b (fun e=>nR e host)=acc by clear S;(rw [bz,ff (by omega)])) rfl ao
end Go.Proofs.YtjlocpdfcanlhaaGreat
